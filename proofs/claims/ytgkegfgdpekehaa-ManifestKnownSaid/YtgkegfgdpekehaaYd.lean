/- The walk of ManifestKnown. -/
import Derived.Test.YtgkegfgdpekehaaYc
namespace Go.Proofs.Ytgkegfgdpekehaa
open Go.RowKit Go.Acre Go.Acre.Dk
/-- a disk of the walk's own, and what was there ahead of it -/
structure KS (w0 w : World) (S : Nat → Prop) (db room n : Nat) (D : Files) : Prop where
  has : Has w S db room n D
  low : ∀ j, S j → w0.heap.size ≤ j
  upd : Upd (fun _ => False) w0 w
theorem KS.same {w0 w w' : World} {S : Nat → Prop} {db room n : Nat} {D : Files} (h : KS w0 w S db room n D) (hu : Upd (fun _ => False) w w') : KS w0 w' S db room n D :=
  ⟨h.has.upd hu (fun _ _ f => f), h.low, h.upd.trans hu (fun _ _ f => f)⟩
theorem KS.step {w0 w w' : World} {S S' : Nat → Prop} {db room n n' : Nat} {D D' : Files} (h : KS w0 w S db room n D) (hh : Has w' S' db room n' D') (hc : Chain S w S' w') : KS w0 w' S' db room n' D' :=
  ⟨hh, fun j hj => (hc.new j hj).elim (h.low j) (fun e => Nat.le_trans h.upd.size e), h.upd.trans hc.upd (fun i hi s => by have := h.low i s; omega)⟩
theorem info5b : (Try.prog.info? 5).map (fun i => (i.zero, i.size, i.bytes)) = some (some (.int .u8 0), 1, 1) := by kernel_rfl
theorem mk_bytes (w : World) {L : Int} {n : Nat} (hL : L = (n : Int)) (h : n ≤ 1000) : ∃ w', (Instr.makeSlice 34 (.int .i64 L) (.int .i64 L)).run Try.prog w = .ok (.slice (some ⟨w.heap.size, 0, none⟩) n n) w' ∧
    IntsAt .u8 w' (.slice (some ⟨w.heap.size, 0, none⟩) n n) (List.replicate n 0) ∧ Upd (fun _ => False) w w' := by
  subst hL
  obtain ⟨j0, hj, hy0, hy1, hy2⟩ := info_parts info5b
  obtain ⟨w', h1, h2, h3⟩ := run_make_full (P := Try.prog) (w := w) w.heap.size 34 5 j0 (.int .u8 0) 1 Try.underlying34 hj hy0 hy1 .i64 .i64 n (by rw [hy2]; omega) (by unfold maxLen; omega) (Nat.le_refl _)
  have hm : (madeCells (Value.int .u8 0).cells (n * 1)).toList = (List.replicate n (0 : Int)).map (.int .u8) := by
    have e : (Value.int .u8 0).cells = #[.int .u8 0] := rfl
    rw [e, List.map_replicate]
    unfold madeCells
    apply List.ext_getElem
    · simp
    · intro i h1 h2
      simp [Nat.mod_one]
  rw [hm] at h2
  refine ⟨w', h1, ?_, (Upd.refl _ _).of_grown h3 (fun k e => by cases e)⟩
  have h4 := RowAt.of_own h2
  unfold IntsAt
  rw [List.length_replicate]
  exact h4
theorem conv_bytes {w : World} {v : Value} {zs : List Int} (h : IntsAt .u8 w v zs) : (convert 34 9 v).run Try.prog w = .ok (.string (strOfNums zs)) w := convert_ints h 34 9 5 Try.underlying34 Try.underlying5 Try.underlying9
set_option maxHeartbeats 16000000 in
set_option maxRecDepth 100000 in
theorem known_any (w : World) : Calls Try.prog 19 #[] w (Fresh true w) := by
  go_enter Try.func19, Try.ntmps19
  go_upto_region 3 with fail
  have ha := heap_alloc (w := w) (.cells #[.int .u64 1, .string ⟨#[97]⟩, .string ⟨#[99]⟩, .int .i64 1] 93)
  have hb := heap_alloc (w := w.alloc (.cells #[.int .u64 1, .string ⟨#[97]⟩, .string ⟨#[99]⟩, .int .i64 1] 93)) (.cells #[.int .u64 2, .string ⟨#[98]⟩, .string ⟨#[100]⟩, .int .i64 1] 93)
  rw [World.size_alloc] at hb
  have hu0 : Upd (fun _ => False) w ((w.alloc (.cells #[.int .u64 1, .string ⟨#[97]⟩, .string ⟨#[99]⟩, .int .i64 1] 93)).alloc (.cells #[.int .u64 2, .string ⟨#[98]⟩, .string ⟨#[100]⟩, .int .i64 1] 93)) := ((Upd.refl _ w).alloc _).alloc _
  have HA := Lib.hid (((Upd.refl (fun _ => False) _).alloc (.cells #[.int .u64 2, .string ⟨#[98]⟩, .string ⟨#[100]⟩, .int .i64 1] 93)).keep ha (fun f => f))
  have HB := Lib.hid hb
  have HU0 := Lib.hid hu0
  clear ha hb hu0
  generalize (w.alloc (.cells #[.int .u64 1, .string ⟨#[97]⟩, .string ⟨#[99]⟩, .int .i64 1] 93)).alloc (.cells #[.int .u64 2, .string ⟨#[98]⟩, .string ⟨#[100]⟩, .int .i64 1] 93) = wb at *
  generalize hab : w.heap.size = ab at *
  refine wp_region_fill (by kernel_rfl) (early_of (by kernel_rfl)) (single_of (by kernel_rfl)) (FV wb rd3) ?h0 ?hstep ?hend
  case h0 => exact ⟨(Upd.refl _ _).drew, fun i h => by cases h⟩
  case hstep =>
    intro i hi
    have hi10 : i < 10 := hi
    clear hi
    rcases (show i = 0 ∨ i = 1 ∨ i = 2 ∨ i = 3 ∨ i = 4 ∨ i = 5 ∨ i = 6 ∨ i = 7 ∨ i = 8 ∨ i = 9 by omega) with rfl | rfl | rfl | rfl | rfl | rfl | rfl | rfl | rfl | rfl
    · refine owes_rd rfl (single_of (by kernel_rfl)) ?_
      intro wx hu fr hfr hfo K hK
      clear hfr hfo
      go_simp
      exact hK _ _ (Upd.refl _ _) ⟨none, 0, rfl, LevsAt.nil _⟩
    · refine owes_rd rfl (single_of (by kernel_rfl)) ?_
      intro wx hu fr hfr hfo K hK
      clear hfr hfo
      obtain ⟨w9, h9, l9, u9⟩ := mk_nils wx (L := 7) (n := 7) rfl (by omega)
      go_simp
      exact hK _ _ u9 l9
    · refine owes_rd rfl (single_of (by kernel_rfl)) ?_
      intro wx hu fr hfr hfo K hK
      obtain ⟨v, ve, vr⟩ := hfr ⟨1, .data⟩ (by simp) rfl _ 31 rfl rfl (show (31 : Nat) < 239 by decide)
      replace vr : LevsAt wx v [[], [], [], [], [], [], []] := vr
      obtain ⟨a, c, rfl, _, _⟩ := vr.slice
      clear hfr hfo
      go_simp
      exact hK _ _ (Upd.refl _ _) ⟨a, c, rfl, vr⟩
    · refine owes_rd rfl (single_of (by kernel_rfl)) ?_
      intro wx hu fr hfr hfo K hK
      have e : fr.tmps[1]? = some (.pointer (some ⟨ab, 0, none⟩)) := hfo 1 (by kernel_rfl)
      obtain ⟨p0, p1, p2, p3⟩ := pf_cells (hu.keep HA.out (fun f => f))
      clear hfr hfo
      go_simp
      exact hK _ _ (Upd.refl _ _) rfl
    · refine owes_rd rfl (single_of (by kernel_rfl)) ?_
      intro wx hu fr hfr hfo K hK
      have e : fr.tmps[2]? = some (.pointer (some ⟨ab + 1, 0, none⟩)) := hfo 2 (by kernel_rfl)
      obtain ⟨p0, p1, p2, p3⟩ := pf_cells (hu.keep HB.out (fun f => f))
      clear hfr hfo
      go_simp
      exact hK _ _ (Upd.refl _ _) rfl
    · refine owes_rd rfl (single_of (by kernel_rfl)) ?_
      intro wx hu fr hfr hfo K hK
      obtain ⟨v0, v0e, v0r⟩ := hfr ⟨3, .data⟩ (by simp) rfl _ 33 rfl rfl (show (33 : Nat) < 239 by decide)
      obtain rfl : v0 = agF kA := v0r
      obtain ⟨v1, v1e, v1r⟩ := hfr ⟨4, .data⟩ (by simp) rfl _ 34 rfl rfl (show (34 : Nat) < 239 by decide)
      obtain rfl : v1 = agF kB := v1r
      clear hfr hfo
      unfold agF at *
      go_simp
      exact hK _ _ ((Upd.refl _ _).alloc _) (lev_alloc [kA, kB] (by simp))
    · refine owes_rd rfl (single_of (by kernel_rfl)) ?_
      intro wx hu fr hfr hfo K hK
      obtain ⟨v0, v0e, v0r⟩ := hfr ⟨5, .data⟩ (by simp) rfl _ 35 rfl rfl (show (35 : Nat) < 239 by decide)
      replace v0r : LevAt wx v0 [kA, kB] := v0r
      obtain ⟨a0, c0, rfl, _, _⟩ := v0r.slice
      clear hfr hfo
      go_simp
      exact hK _ _ ((Upd.refl _ _).alloc _) (levs_alloc1 v0r)
    · refine owes_rd rfl (single_of (by kernel_rfl)) ?_
      intro wx hu fr hfr hfo K hK
      obtain ⟨v, ve, vr⟩ := hfr ⟨6, .data⟩ (by simp) rfl _ 36 rfl rfl (show (36 : Nat) < 239 by decide)
      replace vr : LevsAt wx v [[kA, kB]] := vr
      obtain ⟨a, c, rfl, _, _⟩ := vr.slice
      clear hfr hfo
      go_simp
      exact hK _ _ (Upd.refl _ _) ⟨a, c, rfl, vr⟩
    · refine owes_rd rfl (single_of (by kernel_rfl)) ?_
      intro wx hu fr hfr hfo K hK
      obtain ⟨v0, v0e, v0r⟩ := hfr ⟨0, .data⟩ (by simp) rfl _ 30 rfl rfl (show (30 : Nat) < 239 by decide)
      obtain ⟨a0, c0, rfl, l0⟩ := v0r
      obtain ⟨v1, v1e, v1r⟩ := hfr ⟨2, .data⟩ (by simp) rfl _ 32 rfl rfl (show (32 : Nat) < 239 by decide)
      obtain ⟨a1, c1, rfl, l1⟩ := v1r
      obtain ⟨v2, v2e, v2r⟩ := hfr ⟨7, .data⟩ (by simp) rfl _ 37 rfl rfl (show (37 : Nat) < 239 by decide)
      obtain ⟨a2, c2, rfl, l2⟩ := v2r
      clear hfr hfo
      have hst := sts_alloc (w := wx) (us := [.slice a0 (s0).levels.length c0, .slice a1 (s1).levels.length c1, .slice a2 (s2).levels.length c2]) (S := okL) rfl (fun i hi => by
        rcases (show i = 0 ∨ i = 1 ∨ i = 2 by have : i < 3 := hi; omega) with rfl | rfl | rfl
        · exact ⟨_, rfl, l0⟩
        · exact ⟨_, rfl, l1⟩
        · exact ⟨_, rfl, l2⟩
      ) (by decide)
      have HST := Lib.hid hst
      clear hst
      go_simp
      exact hK _ _ ((Upd.refl _ _).alloc _) HST.out
    · refine owes_rd rfl (single_of (by kernel_rfl)) ?_
      intro wx hu fr hfr hfo K hK
      obtain ⟨v, ve, vr⟩ := hfr ⟨8, .data⟩ (by simp) rfl _ 38 rfl rfl (show (38 : Nat) < 239 by decide)
      clear hfr hfo
      replace vr : StsAt wx v okL := vr
      obtain ⟨a, c, rfl, _, _⟩ := vr.slice
      go_simp
      exact hK _ _ (Upd.refl _ _) vr
  intro L vs wc hall hV
  have hu1 := hV.1
  have h9 : StsAt wc (vs 9) okL := hV.2 9 (hall 9 (show (9 : Nat) < 10 by decide))
  clear hall hV
  simp only [putAll, Act.put, List.setIfInBounds_toArray, List.set_cons_zero, List.set_cons_succ]
  generalize vs 0 = x0 at *
  generalize vs 1 = x1 at *
  generalize vs 2 = x2 at *
  generalize vs 3 = x3 at *
  generalize vs 4 = x4 at *
  generalize vs 5 = x5 at *
  generalize vs 6 = x6 at *
  generalize vs 7 = x7 at *
  generalize vs 8 = x8 at *
  generalize vs 9 = x9 at *
  clear vs L
  obtain ⟨a3, c3, h9e, h9a, h9b⟩ := h9.slice
  replace h9e : x9 = .slice a3 3 c3 := h9e
  replace h9a : 3 ≤ c3 := h9a
  subst h9e
  have HOK := Lib.hid h9
  have HU1 := Lib.hid (HU0.out.trans hu1 (fun _ _ f => f))
  have HA1 := Lib.hid (hu1.keep HA.out (fun f => f))
  have HB1 := Lib.hid (hu1.keep HB.out (fun f => f))
  clear HA HB HU0 hu1 h9
  go_wp2_with fail
  go_loopw [4] (fun i wr => ∃ k : Nat, i = .int .i64 k ∧ k ≤ 3 ∧ Upd (fun _ => False) wc wr) (fun i _ => 3 - (intOf i).toNat)
  case atStart => exact ⟨0, rfl, by omega, Upd.refl _ _⟩
  case round =>
    obtain ⟨k, rfl, hk, hu⟩ := hrel
    by_cases hlt : k < 3
    · have hlt2 : (k : Int) < 3 := by omega
      have hk0 : (0 : Int) ≤ (k : Int) := by omega
      obtain ⟨g, o, la, lc, rfl, p0, p1, p2, hl⟩ := (HOK.out.upd0 hu).cell (i := k) hlt
      have hm := ok_may okL[k] (List.getElem_mem _)
      have hid := kn_ids okL[k] (List.mem_append_left _ (List.getElem_mem _))
      have hc := check_any (s := okL[k]) rfl hl hid
      unfold CheckPost at hc
      rw [if_pos hm] at hc
      generalize okL[k] = s at *
      have HC := Lib.hid hc
      clear hc hm hid hl
      go_wp2_with (go_at_call 33; refine HC.out.mono ?_; rintro e w5 ⟨rfl, u5⟩)
      exact ⟨⟨k + 1, by go_num, by omega, hu.trans u5 (fun _ _ f => f)⟩, by simp [intOf]; omega⟩
    · have hge : ¬ (k : Int) < 3 := by omega
      have HOK2 := Lib.hid (HOK.out.upd0 hu)
      have HU2 := Lib.hid (HU1.out.trans hu (fun _ _ f => f))
      have HA2 := Lib.hid (hu.keep HA1.out (fun f => f))
      have HB2 := Lib.hid (hu.keep HB1.out (fun f => f))
      clear hu HOK HU1 HA1 HB1 hk hlt
      obtain ⟨w6, h6, h7a, u6⟩ := mk_bytes wr (L := 33) (n := 33) rfl (by omega)
      have h7 := conv_bytes h7a
      rw [zeros_long] at h7
      clear h7a
      have HOK := Lib.hid (HOK2.out.upd0 u6)
      have HU := Lib.hid (HU2.out.trans u6 (fun _ _ f => f))
      have HA := Lib.hid (u6.keep HA2.out (fun f => f))
      have HB := Lib.hid (u6.keep HB2.out (fun f => f))
      clear HOK2 HU2 HA2 HB2 u6
      go_upto_region 10 with fail
      clear h6 h7 hge
      refine wp_region_fill (by kernel_rfl) (early_of (by kernel_rfl)) (single_of (by kernel_rfl)) (FV w6 rd10) ?h0b ?hstepb ?hendb
      case h0b => exact ⟨(Upd.refl _ _).drew, fun i h => by cases h⟩
      case hstepb =>
        intro i hi
        have hi49 : i < 49 := hi
        clear hi
        rcases (show i = 0 ∨ i = 1 ∨ i = 2 ∨ i = 3 ∨ i = 4 ∨ i = 5 ∨ i = 6 ∨ i = 7 ∨ i = 8 ∨ i = 9 ∨ i = 10 ∨ i = 11 ∨ i = 12 ∨ i = 13 ∨ i = 14 ∨ i = 15 ∨ i = 16 ∨ i = 17 ∨ i = 18 ∨ i = 19 ∨ i = 20 ∨ i = 21 ∨ i = 22 ∨ i = 23 ∨ i = 24 ∨ i = 25 ∨ i = 26 ∨ i = 27 ∨ i = 28 ∨ i = 29 ∨ i = 30 ∨ i = 31 ∨ i = 32 ∨ i = 33 ∨ i = 34 ∨ i = 35 ∨ i = 36 ∨ i = 37 ∨ i = 38 ∨ i = 39 ∨ i = 40 ∨ i = 41 ∨ i = 42 ∨ i = 43 ∨ i = 44 ∨ i = 45 ∨ i = 46 ∨ i = 47 ∨ i = 48 by omega) with rfl | rfl | rfl | rfl | rfl | rfl | rfl | rfl | rfl | rfl | rfl | rfl | rfl | rfl | rfl | rfl | rfl | rfl | rfl | rfl | rfl | rfl | rfl | rfl | rfl | rfl | rfl | rfl | rfl | rfl | rfl | rfl | rfl | rfl | rfl | rfl | rfl | rfl | rfl | rfl | rfl | rfl | rfl | rfl | rfl | rfl | rfl | rfl | rfl
        · refine owes_rd rfl (single_of (by kernel_rfl)) ?_
          intro wx hu fr hfr hfo K hK
          clear hfr hfo
          go_simp
          exact hK _ _ (Upd.refl _ _) ⟨none, 0, rfl, LevsAt.nil _⟩
        · refine owes_rd rfl (single_of (by kernel_rfl)) ?_
          intro wx hu fr hfr hfo K hK
          clear hfr hfo
          go_simp
          exact hK _ _ (Upd.refl _ _) ⟨none, 0, rfl, LevsAt.nil _⟩
        · refine owes_rd rfl (single_of (by kernel_rfl)) ?_
          intro wx hu fr hfr hfo K hK
          clear hfr hfo
          go_simp
          exact hK _ _ (Upd.refl _ _) ⟨none, 0, rfl, LevsAt.nil _⟩
        · refine owes_rd rfl (single_of (by kernel_rfl)) ?_
          intro wx hu fr hfr hfo K hK
          clear hfr hfo
          go_simp
          exact hK _ _ (Upd.refl _ _) ⟨none, 0, rfl, LevsAt.nil _⟩
        · refine owes_rd rfl (single_of (by kernel_rfl)) ?_
          intro wx hu fr hfr hfo K hK
          clear hfr hfo
          obtain ⟨w9, h9, l9, u9⟩ := mk_nils wx (L := 8) (n := 8) rfl (by omega)
          go_simp
          exact hK _ _ u9 l9
        · refine owes_rd rfl (single_of (by kernel_rfl)) ?_
          intro wx hu fr hfr hfo K hK
          obtain ⟨v, ve, vr⟩ := hfr ⟨4, .data⟩ (by simp) rfl _ 57 rfl rfl (show (57 : Nat) < 239 by decide)
          replace vr : LevsAt wx v [[], [], [], [], [], [], [], []] := vr
          obtain ⟨a, c, rfl, _, _⟩ := vr.slice
          clear hfr hfo
          go_simp
          exact hK _ _ (Upd.refl _ _) ⟨a, c, rfl, vr⟩
        · refine owes_rd rfl (single_of (by kernel_rfl)) ?_
          intro wx hu fr hfr hfo K hK
          have e : fr.tmps[1]? = some (.pointer (some ⟨ab, 0, none⟩)) := hfo 1 (by kernel_rfl)
          obtain ⟨p0, p1, p2, p3⟩ := pf_cells (hu.keep HA.out (fun f => f))
          clear hfr hfo
          go_simp
          exact hK _ _ (Upd.refl _ _) rfl
        · refine owes_rd rfl (single_of (by kernel_rfl)) ?_
          intro wx hu fr hfr hfo K hK
          have e : fr.tmps[2]? = some (.pointer (some ⟨ab + 1, 0, none⟩)) := hfo 2 (by kernel_rfl)
          obtain ⟨p0, p1, p2, p3⟩ := pf_cells (hu.keep HB.out (fun f => f))
          clear hfr hfo
          go_simp
          exact hK _ _ (Upd.refl _ _) rfl
        · refine owes_rd rfl (single_of (by kernel_rfl)) ?_
          intro wx hu fr hfr hfo K hK
          obtain ⟨v0, v0e, v0r⟩ := hfr ⟨6, .data⟩ (by simp) rfl _ 59 rfl rfl (show (59 : Nat) < 239 by decide)
          obtain rfl : v0 = agF kA := v0r
          obtain ⟨v1, v1e, v1r⟩ := hfr ⟨7, .data⟩ (by simp) rfl _ 60 rfl rfl (show (60 : Nat) < 239 by decide)
          obtain rfl : v1 = agF kB := v1r
          clear hfr hfo
          unfold agF at *
          go_simp
          exact hK _ _ ((Upd.refl _ _).alloc _) (lev_alloc [kA, kB] (by simp))
        · refine owes_rd rfl (single_of (by kernel_rfl)) ?_
          intro wx hu fr hfr hfo K hK
          obtain ⟨v1, v1e, v1r⟩ := hfr ⟨8, .data⟩ (by simp) rfl _ 61 rfl rfl (show (61 : Nat) < 239 by decide)
          replace v1r : LevAt wx v1 [kA, kB] := v1r
          obtain ⟨a1, c1, rfl, _, _⟩ := v1r.slice
          clear hfr hfo
          go_simp
          exact hK _ _ ((Upd.refl _ _).alloc _) (levs_alloc2 (LevAt.nil _) v1r)
        · refine owes_rd rfl (single_of (by kernel_rfl)) ?_
          intro wx hu fr hfr hfo K hK
          obtain ⟨v, ve, vr⟩ := hfr ⟨9, .data⟩ (by simp) rfl _ 62 rfl rfl (show (62 : Nat) < 239 by decide)
          replace vr : LevsAt wx v [[], [kA, kB]] := vr
          obtain ⟨a, c, rfl, _, _⟩ := vr.slice
          clear hfr hfo
          go_simp
          exact hK _ _ (Upd.refl _ _) ⟨a, c, rfl, vr⟩
        · refine owes_rd rfl (single_of (by kernel_rfl)) ?_
          intro wx hu fr hfr hfo K hK
          have e : fr.tmps[2]? = some (.pointer (some ⟨ab + 1, 0, none⟩)) := hfo 2 (by kernel_rfl)
          obtain ⟨p0, p1, p2, p3⟩ := pf_cells (hu.keep HB.out (fun f => f))
          clear hfr hfo
          go_simp
          exact hK _ _ (Upd.refl _ _) rfl
        · refine owes_rd rfl (single_of (by kernel_rfl)) ?_
          intro wx hu fr hfr hfo K hK
          obtain ⟨v0, v0e, v0r⟩ := hfr ⟨11, .data⟩ (by simp) rfl _ 64 rfl rfl (show (64 : Nat) < 239 by decide)
          obtain rfl : v0 = agF kB := v0r
          clear hfr hfo
          unfold agF at *
          go_simp
          exact hK _ _ ((Upd.refl _ _).alloc _) (lev_alloc [kB] (by simp))
        · refine owes_rd rfl (single_of (by kernel_rfl)) ?_
          intro wx hu fr hfr hfo K hK
          obtain ⟨v0, v0e, v0r⟩ := hfr ⟨12, .data⟩ (by simp) rfl _ 65 rfl rfl (show (65 : Nat) < 239 by decide)
          replace v0r : LevAt wx v0 [kB] := v0r
          obtain ⟨a0, c0, rfl, _, _⟩ := v0r.slice
          clear hfr hfo
          go_simp
          exact hK _ _ ((Upd.refl _ _).alloc _) (levs_alloc1 v0r)
        · refine owes_rd rfl (single_of (by kernel_rfl)) ?_
          intro wx hu fr hfr hfo K hK
          obtain ⟨v, ve, vr⟩ := hfr ⟨13, .data⟩ (by simp) rfl _ 66 rfl rfl (show (66 : Nat) < 239 by decide)
          replace vr : LevsAt wx v [[kB]] := vr
          obtain ⟨a, c, rfl, _, _⟩ := vr.slice
          clear hfr hfo
          go_simp
          exact hK _ _ (Upd.refl _ _) ⟨a, c, rfl, vr⟩
        · refine owes_rd rfl (single_of (by kernel_rfl)) ?_
          intro wx hu fr hfr hfo K hK
          have e : fr.tmps[1]? = some (.pointer (some ⟨ab, 0, none⟩)) := hfo 1 (by kernel_rfl)
          obtain ⟨p0, p1, p2, p3⟩ := pf_cells (hu.keep HA.out (fun f => f))
          clear hfr hfo
          go_simp
          exact hK _ _ (Upd.refl _ _) rfl
        · refine owes_rd rfl (single_of (by kernel_rfl)) ?_
          intro wx hu fr hfr hfo K hK
          obtain ⟨v0, v0e, v0r⟩ := hfr ⟨15, .data⟩ (by simp) rfl _ 68 rfl rfl (show (68 : Nat) < 239 by decide)
          obtain rfl : v0 = agF kA := v0r
          clear hfr hfo
          unfold agF at *
          go_simp
          exact hK _ _ ((Upd.refl _ _).alloc _) (lev_alloc [kA] (by simp))
        · refine owes_rd rfl (single_of (by kernel_rfl)) ?_
          intro wx hu fr hfr hfo K hK
          have e : fr.tmps[1]? = some (.pointer (some ⟨ab, 0, none⟩)) := hfo 1 (by kernel_rfl)
          obtain ⟨p0, p1, p2, p3⟩ := pf_cells (hu.keep HA.out (fun f => f))
          clear hfr hfo
          go_simp
          exact hK _ _ (Upd.refl _ _) rfl
        · refine owes_rd rfl (single_of (by kernel_rfl)) ?_
          intro wx hu fr hfr hfo K hK
          obtain ⟨v0, v0e, v0r⟩ := hfr ⟨17, .data⟩ (by simp) rfl _ 70 rfl rfl (show (70 : Nat) < 239 by decide)
          obtain rfl : v0 = agF kA := v0r
          clear hfr hfo
          unfold agF at *
          go_simp
          exact hK _ _ ((Upd.refl _ _).alloc _) (lev_alloc [kA] (by simp))
        · refine owes_rd rfl (single_of (by kernel_rfl)) ?_
          intro wx hu fr hfr hfo K hK
          obtain ⟨v0, v0e, v0r⟩ := hfr ⟨16, .data⟩ (by simp) rfl _ 69 rfl rfl (show (69 : Nat) < 239 by decide)
          replace v0r : LevAt wx v0 [kA] := v0r
          obtain ⟨a0, c0, rfl, _, _⟩ := v0r.slice
          obtain ⟨v1, v1e, v1r⟩ := hfr ⟨18, .data⟩ (by simp) rfl _ 71 rfl rfl (show (71 : Nat) < 239 by decide)
          replace v1r : LevAt wx v1 [kA] := v1r
          obtain ⟨a1, c1, rfl, _, _⟩ := v1r.slice
          clear hfr hfo
          go_simp
          exact hK _ _ ((Upd.refl _ _).alloc _) (levs_alloc2 v0r v1r)
        · refine owes_rd rfl (single_of (by kernel_rfl)) ?_
          intro wx hu fr hfr hfo K hK
          obtain ⟨v, ve, vr⟩ := hfr ⟨19, .data⟩ (by simp) rfl _ 72 rfl rfl (show (72 : Nat) < 239 by decide)
          replace vr : LevsAt wx v [[kA], [kA]] := vr
          obtain ⟨a, c, rfl, _, _⟩ := vr.slice
          clear hfr hfo
          go_simp
          exact hK _ _ (Upd.refl _ _) ⟨a, c, rfl, vr⟩
        · refine owes_rd rfl (single_of (by kernel_rfl)) ?_
          intro wx hu fr hfr hfo K hK
          clear hfr hfo
          go_simp
          exact hK _ _ (Upd.refl _ _) rfl
        · refine owes_rd rfl (single_of (by kernel_rfl)) ?_
          intro wx hu fr hfr hfo K hK
          obtain ⟨v0, v0e, v0r⟩ := hfr ⟨21, .data⟩ (by simp) rfl _ 74 rfl rfl (show (74 : Nat) < 239 by decide)
          obtain rfl : v0 = agF kC := v0r
          clear hfr hfo
          unfold agF at *
          go_simp
          exact hK _ _ ((Upd.refl _ _).alloc _) (lev_alloc [kC] (by simp))
        · refine owes_rd rfl (single_of (by kernel_rfl)) ?_
          intro wx hu fr hfr hfo K hK
          obtain ⟨v0, v0e, v0r⟩ := hfr ⟨22, .data⟩ (by simp) rfl _ 75 rfl rfl (show (75 : Nat) < 239 by decide)
          replace v0r : LevAt wx v0 [kC] := v0r
          obtain ⟨a0, c0, rfl, _, _⟩ := v0r.slice
          clear hfr hfo
          go_simp
          exact hK _ _ ((Upd.refl _ _).alloc _) (levs_alloc1 v0r)
        · refine owes_rd rfl (single_of (by kernel_rfl)) ?_
          intro wx hu fr hfr hfo K hK
          obtain ⟨v, ve, vr⟩ := hfr ⟨23, .data⟩ (by simp) rfl _ 76 rfl rfl (show (76 : Nat) < 239 by decide)
          replace vr : LevsAt wx v [[kC]] := vr
          obtain ⟨a, c, rfl, _, _⟩ := vr.slice
          clear hfr hfo
          go_simp
          exact hK _ _ (Upd.refl _ _) ⟨a, c, rfl, vr⟩
        · refine owes_rd rfl (single_of (by kernel_rfl)) ?_
          intro wx hu fr hfr hfo K hK
          clear hfr hfo
          go_simp
          exact hK _ _ (Upd.refl _ _) rfl
        · refine owes_rd rfl (single_of (by kernel_rfl)) ?_
          intro wx hu fr hfr hfo K hK
          obtain ⟨v0, v0e, v0r⟩ := hfr ⟨25, .data⟩ (by simp) rfl _ 78 rfl rfl (show (78 : Nat) < 239 by decide)
          obtain rfl : v0 = agF kD := v0r
          clear hfr hfo
          unfold agF at *
          go_simp
          exact hK _ _ ((Upd.refl _ _).alloc _) (lev_alloc [kD] (by simp))
        · refine owes_rd rfl (single_of (by kernel_rfl)) ?_
          intro wx hu fr hfr hfo K hK
          obtain ⟨v0, v0e, v0r⟩ := hfr ⟨26, .data⟩ (by simp) rfl _ 79 rfl rfl (show (79 : Nat) < 239 by decide)
          replace v0r : LevAt wx v0 [kD] := v0r
          obtain ⟨a0, c0, rfl, _, _⟩ := v0r.slice
          clear hfr hfo
          go_simp
          exact hK _ _ ((Upd.refl _ _).alloc _) (levs_alloc1 v0r)
        · refine owes_rd rfl (single_of (by kernel_rfl)) ?_
          intro wx hu fr hfr hfo K hK
          obtain ⟨v, ve, vr⟩ := hfr ⟨27, .data⟩ (by simp) rfl _ 80 rfl rfl (show (80 : Nat) < 239 by decide)
          replace vr : LevsAt wx v [[kD]] := vr
          obtain ⟨a, c, rfl, _, _⟩ := vr.slice
          clear hfr hfo
          go_simp
          exact hK _ _ (Upd.refl _ _) ⟨a, c, rfl, vr⟩
        · refine owes_rd rfl (single_of (by kernel_rfl)) ?_
          intro wx hu fr hfr hfo K hK
          clear hfr hfo
          go_simp
          exact hK _ _ (Upd.refl _ _) rfl
        · refine owes_rd rfl (single_of (by kernel_rfl)) ?_
          intro wx hu fr hfr hfo K hK
          obtain ⟨v0, v0e, v0r⟩ := hfr ⟨29, .data⟩ (by simp) rfl _ 82 rfl rfl (show (82 : Nat) < 239 by decide)
          obtain rfl : v0 = agF kE := v0r
          clear hfr hfo
          unfold agF at *
          go_simp
          exact hK _ _ ((Upd.refl _ _).alloc _) (lev_alloc [kE] (by simp))
        · refine owes_rd rfl (single_of (by kernel_rfl)) ?_
          intro wx hu fr hfr hfo K hK
          obtain ⟨v0, v0e, v0r⟩ := hfr ⟨30, .data⟩ (by simp) rfl _ 83 rfl rfl (show (83 : Nat) < 239 by decide)
          replace v0r : LevAt wx v0 [kE] := v0r
          obtain ⟨a0, c0, rfl, _, _⟩ := v0r.slice
          clear hfr hfo
          go_simp
          exact hK _ _ ((Upd.refl _ _).alloc _) (levs_alloc1 v0r)
        · refine owes_rd rfl (single_of (by kernel_rfl)) ?_
          intro wx hu fr hfr hfo K hK
          obtain ⟨v, ve, vr⟩ := hfr ⟨31, .data⟩ (by simp) rfl _ 84 rfl rfl (show (84 : Nat) < 239 by decide)
          replace vr : LevsAt wx v [[kE]] := vr
          obtain ⟨a, c, rfl, _, _⟩ := vr.slice
          clear hfr hfo
          go_simp
          exact hK _ _ (Upd.refl _ _) ⟨a, c, rfl, vr⟩
        · refine owes_rd rfl (single_of (by kernel_rfl)) ?_
          intro wx hu fr hfr hfo K hK
          clear hfr hfo
          go_simp
          exact hK _ _ (Upd.refl _ _) rfl
        · refine owes_rd rfl (single_of (by kernel_rfl)) ?_
          intro wx hu fr hfr hfo K hK
          obtain ⟨v0, v0e, v0r⟩ := hfr ⟨33, .data⟩ (by simp) rfl _ 86 rfl rfl (show (86 : Nat) < 239 by decide)
          obtain rfl : v0 = agF kF := v0r
          clear hfr hfo
          unfold agF at *
          go_simp
          exact hK _ _ ((Upd.refl _ _).alloc _) (lev_alloc [kF] (by simp))
        · refine owes_rd rfl (single_of (by kernel_rfl)) ?_
          intro wx hu fr hfr hfo K hK
          obtain ⟨v0, v0e, v0r⟩ := hfr ⟨34, .data⟩ (by simp) rfl _ 87 rfl rfl (show (87 : Nat) < 239 by decide)
          replace v0r : LevAt wx v0 [kF] := v0r
          obtain ⟨a0, c0, rfl, _, _⟩ := v0r.slice
          clear hfr hfo
          go_simp
          exact hK _ _ ((Upd.refl _ _).alloc _) (levs_alloc1 v0r)
        · refine owes_rd rfl (single_of (by kernel_rfl)) ?_
          intro wx hu fr hfr hfo K hK
          obtain ⟨v, ve, vr⟩ := hfr ⟨35, .data⟩ (by simp) rfl _ 88 rfl rfl (show (88 : Nat) < 239 by decide)
          replace vr : LevsAt wx v [[kF]] := vr
          obtain ⟨a, c, rfl, _, _⟩ := vr.slice
          clear hfr hfo
          go_simp
          exact hK _ _ (Upd.refl _ _) ⟨a, c, rfl, vr⟩
        · refine owes_rd rfl (single_of (by kernel_rfl)) ?_
          intro wx hu fr hfr hfo K hK
          have e : fr.tmps[5]? = some (.string long) := hfo 5 (by kernel_rfl)
          clear hfr hfo
          go_simp
          exact hK _ _ (Upd.refl _ _) rfl
        · refine owes_rd rfl (single_of (by kernel_rfl)) ?_
          intro wx hu fr hfr hfo K hK
          obtain ⟨v, ve, vr⟩ := hfr ⟨37, .data⟩ (by simp) rfl _ 90 rfl rfl (show (90 : Nat) < 239 by decide)
          obtain rfl : v = .string long := vr
          clear hfr hfo
          go_simp
          exact hK _ _ (Upd.refl _ _) rfl
        · refine owes_rd rfl (single_of (by kernel_rfl)) ?_
          intro wx hu fr hfr hfo K hK
          obtain ⟨v0, v0e, v0r⟩ := hfr ⟨38, .data⟩ (by simp) rfl _ 91 rfl rfl (show (91 : Nat) < 239 by decide)
          obtain rfl : v0 = agF kG := v0r
          clear hfr hfo
          unfold agF at *
          go_simp
          exact hK _ _ ((Upd.refl _ _).alloc _) (lev_alloc [kG] (by simp))
        · refine owes_rd rfl (single_of (by kernel_rfl)) ?_
          intro wx hu fr hfr hfo K hK
          obtain ⟨v0, v0e, v0r⟩ := hfr ⟨39, .data⟩ (by simp) rfl _ 92 rfl rfl (show (92 : Nat) < 239 by decide)
          replace v0r : LevAt wx v0 [kG] := v0r
          obtain ⟨a0, c0, rfl, _, _⟩ := v0r.slice
          clear hfr hfo
          go_simp
          exact hK _ _ ((Upd.refl _ _).alloc _) (levs_alloc1 v0r)
        · refine owes_rd rfl (single_of (by kernel_rfl)) ?_
          intro wx hu fr hfr hfo K hK
          obtain ⟨v, ve, vr⟩ := hfr ⟨40, .data⟩ (by simp) rfl _ 93 rfl rfl (show (93 : Nat) < 239 by decide)
          replace vr : LevsAt wx v [[kG]] := vr
          obtain ⟨a, c, rfl, _, _⟩ := vr.slice
          clear hfr hfo
          go_simp
          exact hK _ _ (Upd.refl _ _) ⟨a, c, rfl, vr⟩
        · refine owes_rd rfl (single_of (by kernel_rfl)) ?_
          intro wx hu fr hfr hfo K hK
          clear hfr hfo
          go_simp
          exact hK _ _ (Upd.refl _ _) rfl
        · refine owes_rd rfl (single_of (by kernel_rfl)) ?_
          intro wx hu fr hfr hfo K hK
          clear hfr hfo
          go_simp
          exact hK _ _ (Upd.refl _ _) rfl
        · refine owes_rd rfl (single_of (by kernel_rfl)) ?_
          intro wx hu fr hfr hfo K hK
          obtain ⟨v0, v0e, v0r⟩ := hfr ⟨42, .data⟩ (by simp) rfl _ 95 rfl rfl (show (95 : Nat) < 239 by decide)
          obtain rfl : v0 = agF kH := v0r
          obtain ⟨v1, v1e, v1r⟩ := hfr ⟨43, .data⟩ (by simp) rfl _ 96 rfl rfl (show (96 : Nat) < 239 by decide)
          obtain rfl : v1 = agF kI := v1r
          clear hfr hfo
          unfold agF at *
          go_simp
          exact hK _ _ ((Upd.refl _ _).alloc _) (lev_alloc [kH, kI] (by simp))
        · refine owes_rd rfl (single_of (by kernel_rfl)) ?_
          intro wx hu fr hfr hfo K hK
          obtain ⟨v1, v1e, v1r⟩ := hfr ⟨44, .data⟩ (by simp) rfl _ 97 rfl rfl (show (97 : Nat) < 239 by decide)
          replace v1r : LevAt wx v1 [kH, kI] := v1r
          obtain ⟨a1, c1, rfl, _, _⟩ := v1r.slice
          clear hfr hfo
          go_simp
          exact hK _ _ ((Upd.refl _ _).alloc _) (levs_alloc2 (LevAt.nil _) v1r)
        · refine owes_rd rfl (single_of (by kernel_rfl)) ?_
          intro wx hu fr hfr hfo K hK
          obtain ⟨v, ve, vr⟩ := hfr ⟨45, .data⟩ (by simp) rfl _ 98 rfl rfl (show (98 : Nat) < 239 by decide)
          replace vr : LevsAt wx v [[], [kH, kI]] := vr
          obtain ⟨a, c, rfl, _, _⟩ := vr.slice
          clear hfr hfo
          go_simp
          exact hK _ _ (Upd.refl _ _) ⟨a, c, rfl, vr⟩
        · refine owes_rd rfl (single_of (by kernel_rfl)) ?_
          intro wx hu fr hfr hfo K hK
          obtain ⟨v0, v0e, v0r⟩ := hfr ⟨0, .data⟩ (by simp) rfl _ 53 rfl rfl (show (53 : Nat) < 239 by decide)
          obtain ⟨a0, c0, rfl, l0⟩ := v0r
          obtain ⟨v1, v1e, v1r⟩ := hfr ⟨1, .data⟩ (by simp) rfl _ 54 rfl rfl (show (54 : Nat) < 239 by decide)
          obtain ⟨a1, c1, rfl, l1⟩ := v1r
          obtain ⟨v2, v2e, v2r⟩ := hfr ⟨2, .data⟩ (by simp) rfl _ 55 rfl rfl (show (55 : Nat) < 239 by decide)
          obtain ⟨a2, c2, rfl, l2⟩ := v2r
          obtain ⟨v3, v3e, v3r⟩ := hfr ⟨3, .data⟩ (by simp) rfl _ 56 rfl rfl (show (56 : Nat) < 239 by decide)
          obtain ⟨a3, c3, rfl, l3⟩ := v3r
          obtain ⟨v4, v4e, v4r⟩ := hfr ⟨5, .data⟩ (by simp) rfl _ 58 rfl rfl (show (58 : Nat) < 239 by decide)
          obtain ⟨a4, c4, rfl, l4⟩ := v4r
          obtain ⟨v5, v5e, v5r⟩ := hfr ⟨10, .data⟩ (by simp) rfl _ 63 rfl rfl (show (63 : Nat) < 239 by decide)
          obtain ⟨a5, c5, rfl, l5⟩ := v5r
          obtain ⟨v6, v6e, v6r⟩ := hfr ⟨14, .data⟩ (by simp) rfl _ 67 rfl rfl (show (67 : Nat) < 239 by decide)
          obtain ⟨a6, c6, rfl, l6⟩ := v6r
          obtain ⟨v7, v7e, v7r⟩ := hfr ⟨20, .data⟩ (by simp) rfl _ 73 rfl rfl (show (73 : Nat) < 239 by decide)
          obtain ⟨a7, c7, rfl, l7⟩ := v7r
          obtain ⟨v8, v8e, v8r⟩ := hfr ⟨24, .data⟩ (by simp) rfl _ 77 rfl rfl (show (77 : Nat) < 239 by decide)
          obtain ⟨a8, c8, rfl, l8⟩ := v8r
          obtain ⟨v9, v9e, v9r⟩ := hfr ⟨28, .data⟩ (by simp) rfl _ 81 rfl rfl (show (81 : Nat) < 239 by decide)
          obtain ⟨a9, c9, rfl, l9⟩ := v9r
          obtain ⟨v10, v10e, v10r⟩ := hfr ⟨32, .data⟩ (by simp) rfl _ 85 rfl rfl (show (85 : Nat) < 239 by decide)
          obtain ⟨a10, c10, rfl, l10⟩ := v10r
          obtain ⟨v11, v11e, v11r⟩ := hfr ⟨36, .data⟩ (by simp) rfl _ 89 rfl rfl (show (89 : Nat) < 239 by decide)
          obtain ⟨a11, c11, rfl, l11⟩ := v11r
          obtain ⟨v12, v12e, v12r⟩ := hfr ⟨41, .data⟩ (by simp) rfl _ 94 rfl rfl (show (94 : Nat) < 239 by decide)
          obtain ⟨a12, c12, rfl, l12⟩ := v12r
          obtain ⟨v13, v13e, v13r⟩ := hfr ⟨46, .data⟩ (by simp) rfl _ 99 rfl rfl (show (99 : Nat) < 239 by decide)
          obtain ⟨a13, c13, rfl, l13⟩ := v13r
          clear hfr hfo
          have hst := sts_alloc (w := wx) (us := [.slice a0 (t0).levels.length c0, .slice a1 (t1).levels.length c1, .slice a2 (t2).levels.length c2, .slice a3 (t3).levels.length c3, .slice a4 (t4).levels.length c4, .slice a5 (t5).levels.length c5, .slice a6 (t6).levels.length c6, .slice a7 (t7).levels.length c7, .slice a8 (t8).levels.length c8, .slice a9 (t9).levels.length c9, .slice a10 (t10).levels.length c10, .slice a11 (t11).levels.length c11, .slice a12 (t12).levels.length c12, .slice a13 (t13).levels.length c13]) (S := badL) rfl (fun i hi => by
            rcases (show i = 0 ∨ i = 1 ∨ i = 2 ∨ i = 3 ∨ i = 4 ∨ i = 5 ∨ i = 6 ∨ i = 7 ∨ i = 8 ∨ i = 9 ∨ i = 10 ∨ i = 11 ∨ i = 12 ∨ i = 13 by have : i < 14 := hi; omega) with rfl | rfl | rfl | rfl | rfl | rfl | rfl | rfl | rfl | rfl | rfl | rfl | rfl | rfl
            · exact ⟨_, rfl, l0⟩
            · exact ⟨_, rfl, l1⟩
            · exact ⟨_, rfl, l2⟩
            · exact ⟨_, rfl, l3⟩
            · exact ⟨_, rfl, l4⟩
            · exact ⟨_, rfl, l5⟩
            · exact ⟨_, rfl, l6⟩
            · exact ⟨_, rfl, l7⟩
            · exact ⟨_, rfl, l8⟩
            · exact ⟨_, rfl, l9⟩
            · exact ⟨_, rfl, l10⟩
            · exact ⟨_, rfl, l11⟩
            · exact ⟨_, rfl, l12⟩
            · exact ⟨_, rfl, l13⟩
          ) (by decide)
          have HST := Lib.hid hst
          clear hst
          go_simp
          exact hK _ _ ((Upd.refl _ _).alloc _) HST.out
        · refine owes_rd rfl (single_of (by kernel_rfl)) ?_
          intro wx hu fr hfr hfo K hK
          obtain ⟨v, ve, vr⟩ := hfr ⟨47, .data⟩ (by simp) rfl _ 100 rfl rfl (show (100 : Nat) < 239 by decide)
          clear hfr hfo
          replace vr : StsAt wx v badL := vr
          obtain ⟨a, c, rfl, _, _⟩ := vr.slice
          go_simp
          exact hK _ _ (Upd.refl _ _) vr
      intro L vs wd hall hV
      have hu1 := hV.1
      have h9 : StsAt wd (vs 48) badL := hV.2 48 (hall 48 (show (48 : Nat) < 49 by decide))
      clear hall hV
      simp only [putAll, Act.put, List.setIfInBounds_toArray, List.set_cons_zero, List.set_cons_succ]
      generalize vs 0 = y0 at *
      generalize vs 1 = y1 at *
      generalize vs 2 = y2 at *
      generalize vs 3 = y3 at *
      generalize vs 4 = y4 at *
      generalize vs 5 = y5 at *
      generalize vs 6 = y6 at *
      generalize vs 7 = y7 at *
      generalize vs 8 = y8 at *
      generalize vs 9 = y9 at *
      generalize vs 10 = y10 at *
      generalize vs 11 = y11 at *
      generalize vs 12 = y12 at *
      generalize vs 13 = y13 at *
      generalize vs 14 = y14 at *
      generalize vs 15 = y15 at *
      generalize vs 16 = y16 at *
      generalize vs 17 = y17 at *
      generalize vs 18 = y18 at *
      generalize vs 19 = y19 at *
      generalize vs 20 = y20 at *
      generalize vs 21 = y21 at *
      generalize vs 22 = y22 at *
      generalize vs 23 = y23 at *
      generalize vs 24 = y24 at *
      generalize vs 25 = y25 at *
      generalize vs 26 = y26 at *
      generalize vs 27 = y27 at *
      generalize vs 28 = y28 at *
      generalize vs 29 = y29 at *
      generalize vs 30 = y30 at *
      generalize vs 31 = y31 at *
      generalize vs 32 = y32 at *
      generalize vs 33 = y33 at *
      generalize vs 34 = y34 at *
      generalize vs 35 = y35 at *
      generalize vs 36 = y36 at *
      generalize vs 37 = y37 at *
      generalize vs 38 = y38 at *
      generalize vs 39 = y39 at *
      generalize vs 40 = y40 at *
      generalize vs 41 = y41 at *
      generalize vs 42 = y42 at *
      generalize vs 43 = y43 at *
      generalize vs 44 = y44 at *
      generalize vs 45 = y45 at *
      generalize vs 46 = y46 at *
      generalize vs 47 = y47 at *
      generalize vs 48 = y48 at *
      clear vs L
      obtain ⟨a6, c6, h9e, h9c, h9d⟩ := h9.slice
      replace h9e : y48 = .slice a6 14 c6 := h9e
      replace h9c : 14 ≤ c6 := h9c
      subst h9e
      have HBAD := Lib.hid h9
      have HOK1 := Lib.hid (HOK.out.upd0 hu1)
      have HU1 := Lib.hid (HU.out.trans hu1 (fun _ _ f => f))
      clear HOK HU HA HB hu1 h9
      go_wp2_with fail
      go_loopw [7] (fun i wr => ∃ k : Nat, i = .int .i64 k ∧ k ≤ 14 ∧ Upd (fun _ => False) wd wr) (fun i _ => 14 - (intOf i).toNat)
      case atStart => exact ⟨0, rfl, by omega, Upd.refl _ _⟩
      case round =>
        obtain ⟨k, rfl, hk, hu⟩ := hrel
        by_cases hlt : k < 14
        · have hlt2 : (k : Int) < 14 := by omega
          have hk0 : (0 : Int) ≤ (k : Int) := by omega
          obtain ⟨g, o, la, lc, rfl, p0, p1, p2, hl⟩ := (HBAD.out.upd0 hu).cell (i := k) hlt
          have hm := bad_may badL[k] (List.getElem_mem _)
          have hmn : ¬ mayS badL[k] = true := by rw [hm]; exact Bool.false_ne_true
          have hid := kn_ids badL[k] (List.mem_append_right _ (List.getElem_mem _))
          have HC : Hid (∀ w', Upd (fun _ => False) wr w' → Calls Try.prog 33 #[.agg #[.int .u64 (badL[k].next : Nat), .int .u64 (badL[k].log : Nat), .slice la badL[k].levels.length lc]] w' (fun e w2 => e = .returned (.int .i64 2) ∧ Upd (fun _ => False) w' w2)) := fun w' hu2 => by
            have hc := check_any (s := badL[k]) rfl (hl.upd0 hu2) hid
            unfold CheckPost at hc
            rw [if_neg hmn] at hc
            exact hc
          have he := encode_any (s := badL[k]) rfl hl hid
          unfold EncPost at he
          rw [(enc_no hmn).1, (enc_no hmn).2] at he
          have HE := Lib.hid he
          clear he hm hmn hid hl
          generalize badL[k] = s at *
          go_upto_region 15 with (go_at_call 31; refine HE.out.mono ?_; rintro e w5 ⟨rfl, u5⟩)
          have q0 := cell_upd u5 p0 (fun f => f)
          have q1 := cell_upd u5 p1 (fun f => f)
          have q2 := cell_upd u5 p2 (fun f => f)
          clear p0 p1 p2
          go_wp2_with (go_at_call 33; refine (HC.out _ u5).mono ?_; rintro e w6 ⟨rfl, u6⟩)
          exact ⟨⟨k + 1, by go_num, by omega, hu.trans (u5.trans u6 (fun _ _ f => f)) (fun _ _ f => f)⟩, by simp [intOf]; omega⟩
        · have hge : ¬ (k : Int) < 14 := by omega
          have hokr := HOK1.out.upd0 hu
          obtain ⟨g, o, la, lc, rfl, -, -, -, -⟩ := hokr.cell (i := 2) (show (2 : Nat) < 3 by decide)
          have HC2 : Hid (∀ w', Upd (fun _ => False) wr w' → ∃ la lc, w'.cell? ⟨g, o + 6, none⟩ = some (.int .u64 3) ∧ w'.cell? ⟨g, o + 6 + 1, none⟩ = some (.int .u64 1) ∧ w'.cell? ⟨g, o + 6 + 2, none⟩ = some (.slice la 1 lc) ∧ LevsAt w' (.slice la 1 lc) s2.levels) := fun w' hu2 => by
            obtain ⟨g', o', la', lc', e, h1, h2, h3, h4⟩ := (hokr.upd0 hu2).cell (i := 2) (show (2 : Nat) < 3 by decide)
            simp only [Option.some.injEq, Addr.mk.injEq, and_true] at e
            obtain ⟨rfl, rfl⟩ := e
            exact ⟨la', lc', h1, h2, h3, h4⟩
          have HC0 : Hid (∀ w', Upd (fun _ => False) wr w' → ∃ la lc, w'.cell? ⟨g, o, none⟩ = some (.int .u64 1) ∧ w'.cell? ⟨g, o + 1, none⟩ = some (.int .u64 1) ∧ w'.cell? ⟨g, o + 2, none⟩ = some (.slice la 0 lc) ∧ LevsAt w' (.slice la 0 lc) s0.levels) := fun w' hu2 => by
            obtain ⟨g', o', la', lc', e, h1, h2, h3, h4⟩ := (hokr.upd0 hu2).cell (i := 0) (show (0 : Nat) < 3 by decide)
            simp only [Option.some.injEq, Addr.mk.injEq, and_true] at e
            obtain ⟨rfl, rfl⟩ := e
            exact ⟨la', lc', h1, h2, h3, h4⟩
          have HUR := Lib.hid (HU1.out.trans hu (fun _ _ f => f))
          clear hokr HOK1 HU1 HBAD hu hlt hk
          go_upto_region 18 with (go_at_call 42; refine (new_any 1000 _ (by omega)).mono ?_; rintro e w1 ⟨db, S0, rfl, i1, i2, i3⟩)
          have K1 : Hid (KS wr w1 S0 db 1000 0 []) := ⟨i1, i2, i3⟩
          have hl1 := load_full K1.out.has mN' (by decide) (fun f hf => by cases hf)
          rw [kn_load0] at hl1
          have HL1 := Lib.hid hl1
          clear i1 i2 i3 hl1
          go_upto_region 19 with (go_at_call 60; refine HL1.out.mono ?_; rintro e w2 ⟨rfl, u2⟩)
          have K2 := Lib.hid (K1.out.same (u2.trans ((Upd.refl (fun _ => False) w2).alloc (.cells #[.int .u64 0, .int .u64 0, .slice none 0 0] 45)) (fun _ _ f => f)))
          clear u2 K1 HL1
          generalize w2.alloc (.cells #[.int .u64 0, .int .u64 0, .slice none 0 0] 45) = w3 at *
          obtain ⟨la2, lc2, p0, p1, p2, l2⟩ := HC2.out w3 K2.out.upd
          have hs2 := save_full K2.out.has (s := s2) rfl l2 (kn_ids s2 (by simp [okL])) mN' (by unfold maxLen; omega)
          rw [kn_save] at hs2
          have HS2 := Lib.hid hs2
          clear hs2 l2
          go_upto_region 20 with (go_at_call 59; refine HS2.out.mono ?_; rintro e w4 ⟨rfl, S1, hh4, hc4⟩)
          have K4 := Lib.hid (K2.out.step hh4 hc4)
          clear hh4 hc4 K2 HS2 p0 p1 p2
          have hcr := crash_any K4.out.has none 0 [] 0 rfl (IntsAt.nil _ _) (fun z hz => by cases hz) (fun _ _ h => absurd rfl h) (by omega) (by have := frame_s2; have e : total kD1 = (frameB (stateB s2)).size := Nat.add_zero _; omega)
          rw [kn_crash] at hcr
          have HCR := Lib.hid hcr
          clear hcr
          go_upto_region 21 with (go_at_call 46; refine HCR.out.mono ?_; rintro e w5 ⟨rfl, hh5, u5⟩)
          have K5 := Lib.hid (K4.out.step hh5 ⟨fun k h => .inl h, u5⟩)
          have hS1 : ∀ k, S1 k → k < w5.heap.size := by obtain ⟨E, hE, _⟩ := hh5; exact hE.below
          clear hh5 u5 K4 HCR
          have hl6 := load_full K5.out.has mN' (by decide) (fun f hf => by
            have e := get_one (frameB (stateB s2)) (frameB (stateB s2)).size
            unfold kD1 at hf
            rw [e] at hf
            cases hf
            have := frame_s2
            show (frameB (stateB s2)).size ≤ _
            omega)
          rw [kn_load1] at hl6
          have HL6 := Lib.hid hl6
          clear hl6
          go_upto_region 22 with (go_at_call 60; refine HL6.out.mono ?_; rintro e w6 ⟨xa, xc, rfl, l6, u6⟩)
          have ha7 : Upd (fun _ => False) w6 (w6.alloc (.cells #[.int .u64 (s2.next : Nat), .int .u64 (s2.log : Nat), .slice xa s2.levels.length xc] 45)) := (Upd.refl _ w6).alloc _
          have K7 := Lib.hid (K5.out.same (u6.trans ha7 (fun _ _ f => f)))
          have HBX : Hid ((w6.alloc (.cells #[.int .u64 (s2.next : Nat), .int .u64 (s2.log : Nat), .slice xa s2.levels.length xc] 45)).heap[w6.heap.size]? = some (.cells #[.int .u64 3, .int .u64 1, .slice xa 1 xc] 45 (0, 0))) := heap_alloc (w := w6) _
          have HLX : Hid (OutAt (w6.alloc (.cells #[.int .u64 (s2.next : Nat), .int .u64 (s2.log : Nat), .slice xa s2.levels.length xc] 45)) w5.heap.size (.slice xa 1 xc) s2.levels) := l6.upd ha7 (fun _ f => f.elim)
          have hB5 : w5.heap.size ≤ w6.heap.size := u6.size
          clear ha7 u6 l6 K5 HL6
          generalize w6.alloc (.cells #[.int .u64 (s2.next : Nat), .int .u64 (s2.log : Nat), .slice xa s2.levels.length xc] 45) = w7 at *
          generalize w6.heap.size = bb at *
          generalize w5.heap.size = B5 at *
          obtain ⟨la0, lc0, z0, z1, z2, l0⟩ := HC0.out w7 K7.out.upd
          have HK0 : Hid (∀ w', Upd (fun _ => False) w7 w' → (w'.cell? ⟨g, o, none⟩ = some (.int .u64 1) ∧ w'.cell? ⟨g, o + 1, none⟩ = some (.int .u64 1) ∧ w'.cell? ⟨g, o + 2, none⟩ = some (.slice la0 0 lc0)) ∧ LevsAt w' (.slice la0 0 lc0) s0.levels) := fun w' hu =>
            ⟨⟨cell_upd hu z0 (fun f => f), cell_upd hu z1 (fun f => f), cell_upd hu z2 (fun f => f)⟩, l0.upd0 hu⟩
          have hcs0 := (HK0.out w7.drew (Upd.refl _ _).drew).1
          have HOV : Hid (∀ (w8 : World) (S2 : Nat → Prop) (db2 : Nat), Has w8 S2 db2 5 0 [] → Upd (fun _ => False) w7 w8 → Calls Try.prog 59 #[.pointer (some ⟨db2, 0, none⟩), .string ⟨#[109]⟩, .agg #[.int .u64 1, .int .u64 1, .slice la0 0 lc0]] w8 (SavePost S2 w8 db2 5 2 ([], 7))) := fun w8 S2 db2 hh hu => by
            have h := save_full hh (s := s0) rfl (HK0.out w8 hu).2 (kn_ids s0 (by simp [okL])) mN' (by unfold maxLen; omega)
            rw [kn_over] at h
            exact h
          clear z0 z1 z2 l0
          go_region_held3 (fun w' => w'.cell? ⟨g, o, none⟩ = some (.int .u64 1) ∧ w'.cell? ⟨g, o + 1, none⟩ = some (.int .u64 1) ∧ w'.cell? ⟨g, o + 2, none⟩ = some (.slice la0 0 lc0)) (first | exact hcs0 | exact hcs8 | exact hcs9) (first | (go_at_call 42; refine (new_any 5 _ (by omega)).mono ?_; rintro e w8 ⟨db2, S2, rfl, i1, i2, i3⟩; have hu8 := ((Upd.refl (fun _ => False) w7).drew).trans i3 (fun _ _ f => f); have hcs8 := (HK0.out w8 hu8).1; replace i2 : ∀ k, S2 k → w7.heap.size ≤ k := i2; clear i3) | (go_at_call 59; refine (HOV.out w8 S2 db2 i1 hu8).mono ?_; rintro e w9 ⟨rfl, S3, hh9, hc9⟩; have hu9 := hu8.trans hc9.upd (fun i hi s => by have := i2 i s; omega); have hcs9 := (HK0.out w9 hu9).1))
          have K9 := Lib.hid (K7.out.same hu9)
          have HBX9 := Lib.hid (hu9.keep HBX.out (fun f => f))
          have HLX9 := Lib.hid (HLX.out.upd hu9 (fun _ f => f.elim))
          have HK9 : Hid (∀ w', Upd (fun _ => False) w9 w' → (w'.cell? ⟨g, o, none⟩ = some (.int .u64 1) ∧ w'.cell? ⟨g, o + 1, none⟩ = some (.int .u64 1) ∧ w'.cell? ⟨g, o + 2, none⟩ = some (.slice la0 0 lc0)) ∧ LevsAt w' (.slice la0 0 lc0) s0.levels) := fun w' hu => HK0.out w' (hu9.trans hu (fun _ _ f => f))
          clear hcs0 hcs8 hcs9 hu8 hu9 i1 i2 hh9 hc9 HOV HK0 K7 HBX HLX
          obtain ⟨z0, z1, z2⟩ := (HK9.out w9 (Upd.refl _ _)).1
          go_upto_region 23 with fail
          have HSN : Hid (Calls Try.prog 59 #[.pointer none, .string ⟨#[109]⟩, .agg #[.int .u64 1, .int .u64 1, .slice la0 0 lc0]] w9 (fun e w' => e = .returned (.int .i64 1) ∧ Upd (fun _ => False) w9 w')) := save_nil rfl mN'
          go_upto_region 24 with (go_at_call 59; refine HSN.out.mono ?_; rintro e wa ⟨rfl, ua⟩)
          have KA := Lib.hid (K9.out.same ua)
          have HKA : Hid (∀ w', Upd (fun _ => False) wa w' → (w'.cell? ⟨g, o, none⟩ = some (.int .u64 1) ∧ w'.cell? ⟨g, o + 1, none⟩ = some (.int .u64 1) ∧ w'.cell? ⟨g, o + 2, none⟩ = some (.slice la0 0 lc0)) ∧ LevsAt w' (.slice la0 0 lc0) s0.levels) := fun w' hu => HK9.out w' (ua.trans hu (fun _ _ f => f))
          have HBXA := Lib.hid (ua.keep HBX9.out (fun f => f))
          have HLXA := Lib.hid (HLX9.out.upd ua (fun _ f => f.elim))
          clear ua K9 HBX9 HLX9 HK9 HSN z0 z1 z2
          have hn61 : (strOfNums (List.replicate 61 0)).size = 61 := by kernel_rfl
          have HSJ : Hid (∀ w' : World, Upd (fun _ => False) wa w' → Calls Try.prog 59 #[.pointer (some ⟨db, 0, none⟩), .string (strOfNums (List.replicate 61 0)), .agg #[.int .u64 1, .int .u64 1, .slice la0 0 lc0]] w' (fun e w2 => e = .returned (.int .i64 2) ∧ Upd (fun _ => False) w' w2)) := fun w' hu =>
            save_bad (p := some ⟨db, 0, none⟩) (by simp) (s := s0) rfl (HKA.out w' hu).2 (kn_ids s0 (by simp [okL])) _ (fun h => by omega)
          have HSK : Hid (∀ w' : World, Upd (fun _ => False) wa w' → Calls Try.prog 59 #[.pointer (some ⟨db, 0, none⟩), .string ⟨#[]⟩, .agg #[.int .u64 1, .int .u64 1, .slice la0 0 lc0]] w' (fun e w2 => e = .returned (.int .i64 2) ∧ Upd (fun _ => False) w' w2)) := fun w' hu =>
            save_bad (p := some ⟨db, 0, none⟩) (by simp) (s := s0) rfl (HKA.out w' hu).2 (kn_ids s0 (by simp [okL])) ⟨#[]⟩ (fun h => absurd h.2.1 (by decide))
          refine wp_region_fill (by kernel_rfl) (early_of (by kernel_rfl)) (single_of (by kernel_rfl)) (FV wa [.val (.pointer (some ⟨db, 0, none⟩)), .ints (List.replicate 61 0), .val (.string (strOfNums (List.replicate 61 0))), .val (.slice (some ⟨g, o, none⟩) 3 c3), .val (.pointer (some ⟨g, o, none⟩)), .val (.agg #[.int .u64 1, .int .u64 1, .slice la0 0 lc0]), .val (.int .i64 2), .val (.int .i64 2)]) ?h0c ?hstepc ?hendc
          case h0c => exact ⟨(Upd.refl _ _).drew, fun i h => by cases h⟩
          case hstepc =>
            intro i hi
            have hi8 : i < 8 := hi
            clear hi
            rcases (show i = 0 ∨ i = 1 ∨ i = 2 ∨ i = 3 ∨ i = 4 ∨ i = 5 ∨ i = 6 ∨ i = 7 by omega) with rfl | rfl | rfl | rfl | rfl | rfl | rfl | rfl
            · refine owes_rd rfl (single_of (by kernel_rfl)) ?_
              intro wx hu fr hfr hfo K hK
              have e : fr.tmps[10]? = some (.pointer (some ⟨db, 0, none⟩)) := hfo 10 (by kernel_rfl)
              clear hfr hfo
              go_simp
              exact hK _ _ (Upd.refl _ _) rfl
            · refine owes_rd rfl (single_of (by kernel_rfl)) ?_
              intro wx hu fr hfr hfo K hK
              clear hfr hfo
              obtain ⟨w9, h9, l9, u9⟩ := mk_bytes wx (L := 61) (n := 61) rfl (by omega)
              go_simp
              exact hK _ _ u9 l9
            · refine owes_rd rfl (single_of (by kernel_rfl)) ?_
              intro wx hu fr hfr hfo K hK
              obtain ⟨v, ve, vr⟩ := hfr ⟨1, .data⟩ (by simp) rfl _ 157 rfl rfl (show (157 : Nat) < 239 by decide)
              have hcv := conv_bytes (show IntsAt .u8 wx v (List.replicate 61 0) from vr)
              clear hfr hfo vr
              go_simp
              exact hK _ _ (Upd.refl _ _) rfl
            · refine owes_rd rfl (single_of (by kernel_rfl)) ?_
              intro wx hu fr hfr hfo K hK
              have e : fr.tmps[3]? = some (.slice (some ⟨g, o, none⟩) 3 c3) := hfo 3 (by kernel_rfl)
              clear hfr hfo
              go_simp
              exact hK _ _ (Upd.refl _ _) rfl
            · refine owes_rd rfl (single_of (by kernel_rfl)) ?_
              intro wx hu fr hfr hfo K hK
              obtain ⟨v, ve, vr⟩ := hfr ⟨3, .data⟩ (by simp) rfl _ 159 rfl rfl (show (159 : Nat) < 239 by decide)
              obtain rfl : v = .slice (some ⟨g, o, none⟩) 3 c3 := vr
              clear hfr hfo
              go_simp
              exact hK _ _ (Upd.refl _ _) rfl
            · refine owes_rd rfl (single_of (by kernel_rfl)) ?_
              intro wx hu fr hfr hfo K hK
              obtain ⟨v, ve, vr⟩ := hfr ⟨4, .data⟩ (by simp) rfl _ 160 rfl rfl (show (160 : Nat) < 239 by decide)
              obtain rfl : v = .pointer (some ⟨g, o, none⟩) := vr
              obtain ⟨p0, p1, p2⟩ := (HKA.out wx hu).1
              clear hfr hfo
              go_simp
              exact hK _ _ (Upd.refl _ _) rfl
            · refine owes_rd rfl (single_of (by kernel_rfl)) ?_
              intro wx hu fr hfr hfo K hK
              obtain ⟨v, ve, vr⟩ := hfr ⟨0, .data⟩ (by simp) rfl _ 156 rfl rfl (show (156 : Nat) < 239 by decide)
              obtain rfl : v = .pointer (some ⟨db, 0, none⟩) := vr
              obtain ⟨v2, v2e, v2r⟩ := hfr ⟨2, .data⟩ (by simp) rfl _ 158 rfl rfl (show (158 : Nat) < 239 by decide)
              obtain rfl : v2 = .string (strOfNums (List.replicate 61 0)) := v2r
              obtain ⟨v5, v5e, v5r⟩ := hfr ⟨5, .data⟩ (by simp) rfl _ 161 rfl rfl (show (161 : Nat) < 239 by decide)
              obtain rfl : v5 = .agg #[.int .u64 1, .int .u64 1, .slice la0 0 lc0] := v5r
              clear hfr hfo hn61
              have HJ := Lib.hid (HSJ.out wx hu)
              generalize strOfNums (List.replicate 61 0) = nm61 at *
              go_simp
              go_at_call 59
              refine HJ.out.mono ?_
              rintro e wy ⟨rfl, uy⟩
              exact hK _ _ uy rfl
            · refine owes_rd rfl (single_of (by kernel_rfl)) ?_
              intro wx hu fr hfr hfo K hK
              obtain ⟨v, ve, vr⟩ := hfr ⟨6, .data⟩ (by simp) rfl _ 162 rfl rfl (show (162 : Nat) < 239 by decide)
              obtain rfl : v = .int .i64 2 := vr
              clear hfr hfo
              go_simp
              exact hK _ _ (Upd.refl _ _) rfl
          intro L vs wy hall hV
          have uy2 := hV.1
          have j7 : vs 7 = .int .i64 2 := hV.2 7 (hall 7 (show (7 : Nat) < 8 by decide))
          clear hall hV hn61
          simp only [putAll, Act.put, List.setIfInBounds_toArray, List.set_cons_zero, List.set_cons_succ, j7]
          clear j7
          generalize vs 0 = b0 at *
          generalize vs 1 = b1 at *
          generalize vs 2 = b2 at *
          generalize vs 3 = b3 at *
          generalize vs 4 = b4 at *
          generalize vs 5 = b5 at *
          generalize vs 6 = b6 at *
          clear vs L
          have hcsy := (HKA.out wy uy2).1
          have KB := Lib.hid (KA.out.same uy2)
          have HBXB := Lib.hid (uy2.keep HBXA.out (fun f => f))
          have HLXB := Lib.hid (HLXA.out.upd uy2 (fun _ f => f.elim))
          have HSK2 : Hid (Calls Try.prog 59 #[.pointer (some ⟨db, 0, none⟩), .string ⟨#[]⟩, .agg #[.int .u64 1, .int .u64 1, .slice la0 0 lc0]] wy (fun e w2 => e = .returned (.int .i64 2) ∧ Upd (fun _ => False) wy w2)) := HSK.out wy uy2
          obtain ⟨z0, z1, z2⟩ := hcsy
          clear uy2 HSJ HSK KA HBXA HLXA HKA
          go_upto_region 26 with (go_at_call 59; refine HSK2.out.mono ?_; rintro e wc2 ⟨rfl, uc⟩)
          have KC := Lib.hid (KB.out.same uc)
          have HBXC := Lib.hid (uc.keep HBXB.out (fun f => f))
          have HLXC := Lib.hid (HLXB.out.upd uc (fun _ f => f.elim))
          clear uc KB HBXB HLXB HSK2 z0 z1 z2
          have HLN : Hid (Calls Try.prog 60 #[.pointer none, .string ⟨#[109]⟩] wc2 (LoadOut (none, 1) wc2)) := load_nil mN'
          go_upto_region 27 with (go_at_call 60; refine HLN.out.mono ?_; rintro e wd2 ⟨rfl, ud⟩)
          have hua := ud.trans ((Upd.refl (fun _ => False) wd2).alloc (.cells #[.int .u64 0, .int .u64 0, .slice none 0 0] 45)) (fun _ _ f => f)
          have KD := Lib.hid (KC.out.same hua)
          have HBXD := Lib.hid (hua.keep HBXC.out (fun f => f))
          have HLXD := Lib.hid (HLXC.out.upd hua (fun _ f => f.elim))
          clear ud hua KC HBXC HLXC HLN
          generalize wd2.alloc (.cells #[.int .u64 0, .int .u64 0, .slice none 0 0] 45) = we at *
          generalize wd2.heap.size = nb at *
          have HRN := Lib.hid rest_none
          have HFS : Hid ((frameB ⟨#[1, 1, 0, 0]⟩).size ≤ 9223372036854775807) := by show _ ≤ _; rw [frameB_size]; decide
          have HFR := Lib.hid (frame_any ⟨#[1, 1, 0, 0]⟩ we (by decide))
          unfold FramePost at HFR
          generalize frameB ⟨#[1, 1, 0, 0]⟩ = fr0 at *
          go_upto_region 28 with (go_at_call 20; refine HFR.out.mono ?_; rintro e wf ⟨rfl, uf⟩)
          have KF := Lib.hid (KD.out.same uf)
          have HBXF := Lib.hid (uf.keep HBXD.out (fun f => f))
          have HLXF := Lib.hid (HLXD.out.upd uf (fun _ f => f.elim))
          clear uf KD HBXD HLXD HFR
          have HDC : Hid (Calls Try.prog 36 #[.string fr0] wf (DecOut none wf)) := by
            have h := decode_out (w := wf) fr0 HFS.out
            rw [HRN.out] at h
            exact h
          go_upto_region 29 with (go_at_call 36; refine HDC.out.mono ?_; rintro e wg ⟨rfl, ug⟩)
          have hua := ug.trans ((Upd.refl (fun _ => False) wg).alloc (.cells #[.int .u64 0, .int .u64 0, .slice none 0 0] 45)) (fun _ _ f => f)
          have hbz := heap_alloc (w := wg) (.cells #[.int .u64 0, .int .u64 0, .slice none 0 0] 45)
          have KG := Lib.hid (KF.out.same hua)
          have HBXG := Lib.hid (hua.keep HBXF.out (fun f => f))
          have HLXG := Lib.hid (HLXF.out.upd hua (fun _ f => f.elim))
          clear ug hua KF HBXF HLXF HDC HRN HFS
          generalize wg.alloc (.cells #[.int .u64 0, .int .u64 0, .slice none 0 0] 45) = wh at *
          generalize wg.heap.size = zb at *
          obtain ⟨q0, q1, q2⟩ := box_cells hbz
          have hap := append_any KG.out.has mN' xN (by decide) (by decide) (by unfold maxLen; omega)
          rw [kn_more] at hap
          have HAP : Hid (Calls Try.prog 43 #[.pointer (some ⟨db, 0, none⟩), .string ⟨#[109]⟩, .string ⟨#[120]⟩] wh (Op S1 wh db 1000 (0 + 2 + 1) kD2 0)) := hap
          clear hap hbz
          go_upto_region 31 with fail
          go_upto_region 32 with (go_at_call 43; refine HAP.out.mono ?_; rintro e wi ⟨rfl, S4, hh4, hn4, hu4⟩)
          have KI := Lib.hid (KG.out.step hh4 ⟨hn4, hu4⟩)
          have HBXI := Lib.hid (hu4.keep HBXG.out (fun s => by have := hS1 bb s; omega))
          have HLXI := Lib.hid (HLXG.out.upd hu4 hS1)
          clear hh4 hn4 hu4 KG HBXG HLXG HAP q0 q1 q2
          have hl7 := load_full KI.out.has mN' (by decide) (fun f hf => by
            have e := get_one (frameB (stateB s2) ++ xN) (frameB (stateB s2)).size
            unfold kD2 at hf
            rw [e] at hf
            cases hf
            have := frame_s2
            show (frameB (stateB s2) ++ xN).size ≤ _
            rw [ByteArray.size_append]
            have : xN.size = 1 := rfl
            omega)
          rw [kn_load2] at hl7
          have HL7 := Lib.hid hl7
          clear hl7
          go_upto_region 33 with (go_at_call 60; refine HL7.out.mono ?_; rintro e wj ⟨rfl, uj⟩)
          have hua := uj.trans ((Upd.refl (fun _ => False) wj).alloc (.cells #[.int .u64 0, .int .u64 0, .slice none 0 0] 45)) (fun _ _ f => f)
          have KJ := Lib.hid (KI.out.same hua)
          have HBXJ := Lib.hid (hua.keep HBXI.out (fun f => f))
          have HLXJ := Lib.hid (HLXI.out.upd hua (fun _ f => f.elim)).levs
          clear uj hua KI HBXI HLXI HL7
          generalize wj.alloc (.cells #[.int .u64 0, .int .u64 0, .slice none 0 0] 45) = wk at *
          generalize wj.heap.size = jb at *
          obtain ⟨la9, lc9, r0, r1, r2, l9⟩ := HC2.out wk KJ.out.upd
          obtain ⟨q0, q1, q2⟩ := box_cells HBXJ.out
          have HSM : Hid (Calls Try.prog 40 #[.agg #[.int .u64 3, .int .u64 1, .slice xa 1 xc], .agg #[.int .u64 3, .int .u64 1, .slice la9 1 lc9]] wk.drew (Fresh true wk.drew)) := lsame_state (x := 3) (y := 1) (ls := s2.levels) rfl (HLXJ.out.upd0 (Upd.refl _ wk).drew) (l9.upd0 (Upd.refl _ wk).drew)
          have HWK : Hid (∀ w', Calls Try.prog 38 #[] w' (Fresh true w')) := fun w' => mworks_any w'
          have hcs0 : (wk.drew.cell? ⟨bb, 0, none⟩ = some (.int .u64 3) ∧ wk.drew.cell? ⟨bb, 1, none⟩ = some (.int .u64 1) ∧ wk.drew.cell? ⟨bb, 2, none⟩ = some (.slice xa 1 xc)) ∧ (wk.drew.cell? ⟨g, o + 6, none⟩ = some (.int .u64 3) ∧ wk.drew.cell? ⟨g, o + 6 + 1, none⟩ = some (.int .u64 1) ∧ wk.drew.cell? ⟨g, o + 6 + 2, none⟩ = some (.slice la9 1 lc9)) := ⟨⟨q0, q1, q2⟩, r0, r1, r2⟩
          clear q0 q1 q2 r0 r1 r2 l9
          go_region_held3 (fun w' => (w'.cell? ⟨bb, 0, none⟩ = some (.int .u64 3) ∧ w'.cell? ⟨bb, 1, none⟩ = some (.int .u64 1) ∧ w'.cell? ⟨bb, 2, none⟩ = some (.slice xa 1 xc)) ∧ (w'.cell? ⟨g, o + 6, none⟩ = some (.int .u64 3) ∧ w'.cell? ⟨g, o + 6 + 1, none⟩ = some (.int .u64 1) ∧ w'.cell? ⟨g, o + 6 + 2, none⟩ = some (.slice la9 1 lc9))) (first | exact hcs0 | exact hcsl | exact hcsm) (first | (go_at_call 40; refine HSM.out.mono ?_; rintro e wl ⟨rfl, ul⟩; have ul2 := (Upd.refl (fun _ => False) wk).drew.trans ul (fun _ _ f => f); have hcsl : (wl.cell? ⟨bb, 0, none⟩ = some (.int .u64 3) ∧ wl.cell? ⟨bb, 1, none⟩ = some (.int .u64 1) ∧ wl.cell? ⟨bb, 2, none⟩ = some (.slice xa 1 xc)) ∧ (wl.cell? ⟨g, o + 6, none⟩ = some (.int .u64 3) ∧ wl.cell? ⟨g, o + 6 + 1, none⟩ = some (.int .u64 1) ∧ wl.cell? ⟨g, o + 6 + 2, none⟩ = some (.slice la9 1 lc9)) := ⟨⟨cell_upd ul2 hcs0.1.1 (fun f => f), cell_upd ul2 hcs0.1.2.1 (fun f => f), cell_upd ul2 hcs0.1.2.2 (fun f => f)⟩, cell_upd ul2 hcs0.2.1 (fun f => f), cell_upd ul2 hcs0.2.2.1 (fun f => f), cell_upd ul2 hcs0.2.2.2 (fun f => f)⟩; clear ul) | (go_at_call 38; refine (HWK.out _).mono ?_; rintro e wm ⟨rfl, um⟩; have um2 := ul2.trans um (fun _ _ f => f); have hcsm : (wm.cell? ⟨bb, 0, none⟩ = some (.int .u64 3) ∧ wm.cell? ⟨bb, 1, none⟩ = some (.int .u64 1) ∧ wm.cell? ⟨bb, 2, none⟩ = some (.slice xa 1 xc)) ∧ (wm.cell? ⟨g, o + 6, none⟩ = some (.int .u64 3) ∧ wm.cell? ⟨g, o + 6 + 1, none⟩ = some (.int .u64 1) ∧ wm.cell? ⟨g, o + 6 + 2, none⟩ = some (.slice la9 1 lc9)) := ⟨⟨cell_upd um2 hcs0.1.1 (fun f => f), cell_upd um2 hcs0.1.2.1 (fun f => f), cell_upd um2 hcs0.1.2.2 (fun f => f)⟩, cell_upd um2 hcs0.2.1 (fun f => f), cell_upd um2 hcs0.2.2.1 (fun f => f), cell_upd um2 hcs0.2.2.2 (fun f => f)⟩; clear um))
          go_wp2_with fail
          go_ret
          exact ⟨rfl, HUR.out.trans (KJ.out.upd.trans um2 (fun _ _ f => f)) (fun _ _ f => f)⟩
end Go.Proofs.Ytgkegfgdpekehaa
