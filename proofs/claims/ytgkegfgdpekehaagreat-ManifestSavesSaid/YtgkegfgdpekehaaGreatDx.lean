/- The reference's Remove, Read, Append. -/
import Derived.Test.YtgkegfgdpekehaaGreatDw
namespace Go.Proofs.YtgkegfgdpekehaaGreat
open Go.RowKit Go.Acre Go.Acre.Dk Go.Maps
set_option maxHeartbeats 2000000 in
set_option maxRecDepth 100000 in
theorem rremove_any {w : World} {R : Int} {a : Option Addr} {cap : Nat} {D : Files} (h : FilesAt w (.slice a D.length cap) D) (hsrt : Srt En D) (hnm : D.length ≤ 1000000) (s : ByteArray) : Calls Tryz.prog 35 #[.agg #[.int .i64 R, .slice a D.length cap], .string s] w (RefPost2 R (.slice a D.length cap) (removeD D s) w) := by
  have H := Lib.hid h
  have HP := Lib.hid (pre2 (R := R) h)
  clear h
  go_enter Tryz.func35, Tryz.ntmps35
  go_upto_region 1 with fail
  generalize (w.alloc (.cells #[.int .i64 R, .slice a D.length cap] 33)).alloc (.cells #[.int .i64 0, .slice none 0 0] 33) = wb at *
  generalize w.heap.size = xb at *
  obtain ⟨x0, x1, t0, t1, z0, z1⟩ := HP.out.cells
  go_wp2_with fail
  refine (of_ref rfl HP.out.files hsrt s).mono ?_
  rintro e w2 ⟨rfl, hu2⟩
  have HP2 := Lib.hid (HP.out.next hu2)
  clear hu2 x0 x1 t0 t1 z0 z1
  unfold ofD
  cases hg : get En D s with
  | none =>
    have HR : Hid (removeD D s = (D, 5)) := by show _ = _; unfold removeD; rw [hg]
    simp only
    unfold agE
    clear hg
    go_upto_region 2 with fail
    have HP3 := Lib.hid (HP2.out.next ((Upd.refl (fun _ => False) w2).alloc (.cells #[.string ⟨#[]⟩, .string ⟨#[]⟩, .int .i64 0] 54)))
    generalize w2.alloc (.cells #[.string ⟨#[]⟩, .string ⟨#[]⟩, .int .i64 0] 54) = w3 at *
    obtain ⟨x0, x1, t0, t1, z0, z1⟩ := HP3.out.cells
    go_wp2_with fail
    try simp only [Exit.inBlock, Exit.then]
    refine bodyPost_ret (results_row2 rfl _ _ (xb + 1) 33 _ (0, 0) _ rfl (cells2 HP3.out.res) Tryz.underlying33 rfl (by kernel_rfl)) rfl ?_
    rw [HR.out]
    exact ⟨a, cap, rfl, HP3.out.keeps H.out, HP3.out.post, .inl rfl⟩
  | some f =>
    simp only
    unfold agE
    have HR : Hid (removeD D s = (Dk.drop En s D, 0)) := by show _ = _; unfold removeD; rw [hg]
    clear hg
    go_upto_region 2 with fail
    have HP3 := Lib.hid (HP2.out.next ((Upd.refl (fun _ => False) w2).alloc (.cells #[.string f.name, .string f.bytes, .int .i64 (f.synced : Nat)] 54)))
    generalize w2.alloc (.cells #[.string f.name, .string f.bytes, .int .i64 (f.synced : Nat)] 54) = w3 at *
    generalize w2.heap.size = fb at *
    obtain ⟨x0, x1, t0, t1, z0, z1⟩ := HP3.out.cells
    go_wp2_with fail
    refine (without_any rfl HP3.out.files s hnm).mono ?_
    rintro e w4 ⟨va, vc, rfl, g1, g2, g3⟩
    have HP4 := Lib.hid (HP3.out.next g2)
    have G1 := Lib.hid g1
    have G3 := Lib.hid g3
    clear x0 x1 t0 t1 z0 z1 g1 g2 g3
    obtain ⟨x0, x1, t0, t1, z0, z1⟩ := HP4.out.cells
    go_wp2_with fail
    try simp only [Exit.inBlock, Exit.then]
    refine bodyPost_ret (results_row2 rfl _ _ (xb + 1) 33 _ (0, 0) _ rfl (cells2 HP4.out.res) Tryz.underlying33 rfl (by kernel_rfl)) rfl ?_
    have hl := HP3.out.laid G1.out G3.out (v0 := .int .i64 R) (v1 := .slice va (Dk.drop En s D).length vc)
    rw [HR.out]
    exact ⟨va, vc, rfl, hl.1, HP4.out.post, .inr hl.2⟩
set_option maxHeartbeats 4000000 in
set_option maxRecDepth 100000 in
theorem rappend_any {w : World} {R : Nat} {a : Option Addr} {cap : Nat} {D : Files} (h : FilesAt w (.slice a D.length cap) D) (hmay : May R D) (hR : R ≤ 9223372036854775807) (hnm : D.length ≤ 1000000) (s data : ByteArray) (hds : data.size ≤ 9223372036854775807) : Calls Tryz.prog 7 #[.agg #[.int .i64 (R : Nat), .slice a D.length cap], .string s, .string data] w (RefPost2 (R : Nat) (.slice a D.length cap) (appendD R D s data) w) := by
  have H := Lib.hid h
  have HP := Lib.hid (pre2 (R := (R : Nat)) h)
  have hsrt := hmay.srt
  have hfits := hmay.fits
  have HMAY := Lib.hid hmay
  clear h hmay
  go_enter Tryz.func7, Tryz.ntmps7
  go_upto_region 1 with fail
  generalize (w.alloc (.cells #[.int .i64 (R : Nat), .slice a D.length cap] 33)).alloc (.cells #[.int .i64 0, .slice none 0 0] 33) = wb at *
  generalize w.heap.size = xb at *
  obtain ⟨x0, x1, t0, t1, z0, z1⟩ := HP.out.cells
  go_wp2_with fail
  refine (rname_any s _).mono ?_
  rintro e w' ⟨rfl, rfl⟩
  cases hok : nameOk s with
  | false =>
    have HR : Hid (appendD R D s data = (D, 2)) := by show _ = _; unfold appendD; rw [if_neg (by simp [hok])]
    have HP3 := HP
    go_wp2_with fail
    try simp only [Exit.inBlock, Exit.then]
    refine bodyPost_ret (results_row2 rfl _ _ (xb + 1) 33 _ (0, 0) _ rfl (cells2 HP3.out.res) Tryz.underlying33 rfl (by kernel_rfl)) rfl ?_
    rw [HR.out]
    exact ⟨a, cap, rfl, HP3.out.keeps H.out, HP3.out.post, .inl rfl⟩
  | true =>
    go_wp2_with fail
    refine (rfree_any rfl HP.out.files hR hfits).mono ?_
    rintro e w2 ⟨rfl, hu2⟩
    have HP2 := Lib.hid (HP.out.next hu2)
    clear hu2 x0 x1 t0 t1 z0 z1
    obtain ⟨x0, x1, t0, t1, z0, z1⟩ := HP2.out.cells
    by_cases hfit : data.size ≤ R - total D
    · have hgt : ¬ (data.size : Int) > (R : Int) - (total D : Nat) := by omega
      go_wp2_with fail
      refine (of_ref rfl HP2.out.files hsrt s).mono ?_
      rintro e w3 ⟨rfl, hu3⟩
      have HP3 := Lib.hid (HP2.out.next hu3)
      have HR : Hid (appendD R D s data = (put En ⟨s, (ofD D s).1.bytes ++ data, (ofD D s).1.synced⟩ D, 0)) := by
        show _ = _
        unfold appendD ofD
        rw [if_pos hok, if_pos hfit]
        cases hg : get En D s with
        | some f => rfl
        | none =>
          simp only
          rw [show (⟨#[]⟩ : ByteArray) ++ data = data from ByteArray.empty_append]
      have hbs : (ofD D s).1.bytes.size ≤ R := by
        unfold ofD
        cases hg : get En D s with
        | some f => exact Nat.le_trans (size_le_total (get_some En hg).1) hfits
        | none => exact Nat.zero_le _
      have hsy : (ofD D s).1.synced ≤ R := by
        unfold ofD
        cases hg : get En D s with
        | some f => exact Nat.le_trans (HMAY.out.syn f (get_some En hg).1) (Nat.le_trans (size_le_total (get_some En hg).1) hfits)
        | none => exact Nat.zero_le _
      have hsum : (ofD D s).1.bytes.size + data.size ≤ 9223372036854775807 := by
        have : (ofD D s).1.bytes.size ≤ total D := by
          unfold ofD
          cases hg : get En D s with
          | some f => exact size_le_total (get_some En hg).1
          | none => exact Nat.zero_le _
        omega
      clear hu3 x0 x1 t0 t1 z0 z1
      generalize (ofD D s).1 = f at *
      generalize (ofD D s).2 = b at *
      unfold agE
      have hadd : ∀ u : World, (Op.stringOp .add f.bytes data).run Tryz.prog u = .ok (.string (f.bytes ++ data)) u := fun u => run_string_add_sum u _ _ hsum
      have hnot : ¬ (f.bytes.size + data.size > 9223372036854775807) := by omega
      go_upto_region 6 with fail
      have HP4 := Lib.hid (HP3.out.next ((Upd.refl (fun _ => False) w3).alloc (.cells #[.string f.name, .string f.bytes, .int .i64 (f.synced : Nat)] 54)))
      have hf1 := cell_of_heap (heap_alloc (w := w3) (.cells #[.string f.name, .string f.bytes, .int .i64 (f.synced : Nat)] 54)) 1
      have hf2 := cell_of_heap (heap_alloc (w := w3) (.cells #[.string f.name, .string f.bytes, .int .i64 (f.synced : Nat)] 54)) 2
      simp only [List.getElem?_toArray, List.getElem?_cons_zero, List.getElem?_cons_succ] at hf1 hf2
      generalize w3.alloc (.cells #[.string f.name, .string f.bytes, .int .i64 (f.synced : Nat)] 54) = w4 at *
      generalize w3.heap.size = fb at *
      obtain ⟨x0, x1, t0, t1, z0, z1⟩ := HP4.out.cells
      go_wp2_with fail
      refine (with_any rfl HP4.out.files ⟨s, f.bytes ++ data, f.synced⟩ hsrt hnm (by simp only; omega)).mono ?_
      rintro e w5 ⟨va, vc, rfl, g1, g2, g3⟩
      have HP5 := Lib.hid (HP4.out.next g2)
      have G1 := Lib.hid g1
      have G3 := Lib.hid g3
      clear x0 x1 t0 t1 z0 z1 hf1 hf2 g1 g2 g3
      obtain ⟨x0, x1, t0, t1, z0, z1⟩ := HP5.out.cells
      go_wp2_with fail
      try simp only [Exit.inBlock, Exit.then]
      refine bodyPost_ret (results_row2 rfl _ _ (xb + 1) 33 _ (0, 0) _ rfl (cells2 HP5.out.res) Tryz.underlying33 rfl (by kernel_rfl)) rfl ?_
      have hl := HP4.out.laid G1.out G3.out (v0 := .int .i64 (R : Nat)) (v1 := .slice va (put En ⟨s, f.bytes ++ data, f.synced⟩ D).length vc)
      rw [HR.out]
      exact ⟨va, vc, rfl, hl.1, HP5.out.post, .inr hl.2⟩
    · have hgt : (data.size : Int) > (R : Int) - (total D : Nat) := by omega
      have HR : Hid (appendD R D s data = (D, 7)) := by show _ = _; unfold appendD; rw [if_pos hok, if_neg hfit]
      have HP3 := HP2
      go_wp2_with fail
      try simp only [Exit.inBlock, Exit.then]
      refine bodyPost_ret (results_row2 rfl _ _ (xb + 1) 33 _ (0, 0) _ rfl (cells2 HP3.out.res) Tryz.underlying33 rfl (by kernel_rfl)) rfl ?_
      rw [HR.out]
      exact ⟨a, cap, rfl, HP3.out.keeps H.out, HP3.out.post, .inl rfl⟩
end Go.Proofs.YtgkegfgdpekehaaGreat
