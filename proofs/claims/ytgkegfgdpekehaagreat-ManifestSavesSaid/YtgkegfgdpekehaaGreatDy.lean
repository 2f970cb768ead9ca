/- The reference's New, Read, Rename. -/
import Derived.Test.YtgkegfgdpekehaaGreatDx
namespace Go.Proofs.YtgkegfgdpekehaaGreat
open Go.RowKit Go.Acre Go.Acre.Dk Go.Maps
set_option maxHeartbeats 2000000 in
set_option maxRecDepth 100000 in
theorem rread_any {w : World} {R : Int} {a : Option Addr} {cap : Nat} {D : Files} (h : FilesAt w (.slice a D.length cap) D) (hsrt : Srt En D) (s : ByteArray) : Calls Tryz.prog 26 #[.agg #[.int .i64 R, .slice a D.length cap], .string s] w fun e w' => e = .returned (.tuple #[.string (readD D s).1, .int .i64 ((readD D s).2 : Nat)]) ∧ Upd (fun _ => False) w w' := by
  have hu1 : Upd (fun _ => False) w (w.alloc (.cells #[.int .i64 R, .slice a D.length cap] 33)) := (Upd.refl _ w).alloc _
  have hx := heap_alloc (w := w) (.cells #[.int .i64 R, .slice a D.length cap] 33)
  have H := Lib.hid (h.upd0 hu1)
  have HU := Lib.hid hu1
  clear h hu1
  go_enter Tryz.func26, Tryz.ntmps26
  go_upto_region 1 with fail
  have x0 := cell_of_heap hx 0
  have x1 := cell_of_heap hx 1
  simp only [List.getElem?_toArray, List.getElem?_cons_zero, List.getElem?_cons_succ] at x0 x1
  generalize w.alloc (.cells #[.int .i64 R, .slice a D.length cap] 33) = wb at *
  generalize w.heap.size = xb at *
  clear hx
  go_wp2_with fail
  refine (of_ref rfl H.out hsrt s).mono ?_
  rintro e w2 ⟨rfl, hu2⟩
  have HU2 := Lib.hid (HU.out.trans hu2 (fun _ _ h => h))
  clear hu2 x0 x1
  unfold ofD
  cases hg : get En D s with
  | none =>
    have HR : Hid (readD D s = (⟨#[]⟩, 5)) := by show _ = _; unfold readD; rw [hg]
    simp only
    unfold agE
    clear hg
    go_wp2_with fail
    go_ret2
    exact ⟨by rw [HR.out]; rfl, HU2.out.alloc _⟩
  | some f =>
    have HR : Hid (readD D s = (f.bytes, 0)) := by show _ = _; unfold readD; rw [hg]
    simp only
    unfold agE
    clear hg
    go_wp2_with fail
    go_ret2
    exact ⟨by rw [HR.out]; rfl, HU2.out.alloc _⟩
theorem mem_drop_le {D : Files} {s : ByteArray} : (Dk.drop En s D).length ≤ D.length := List.length_filter_le _ _
set_option maxHeartbeats 4000000 in
set_option maxRecDepth 100000 in
theorem rrename_any {w : World} {R : Int} {a : Option Addr} {cap : Nat} {D : Files} (h : FilesAt w (.slice a D.length cap) D) (hsrt : Srt En D) (hnm : D.length ≤ 1000000) (hsy : ∀ f ∈ D, f.synced ≤ 9223372036854775807) (s y : ByteArray) : Calls Tryz.prog 37 #[.agg #[.int .i64 R, .slice a D.length cap], .string s, .string y] w (RefPost2 R (.slice a D.length cap) (renameD D s y) w) := by
  have H := Lib.hid h
  have HP := Lib.hid (pre2 (R := R) h)
  clear h
  go_enter Tryz.func37, Tryz.ntmps37
  go_upto_region 1 with fail
  generalize (w.alloc (.cells #[.int .i64 R, .slice a D.length cap] 33)).alloc (.cells #[.int .i64 0, .slice none 0 0] 33) = wb at *
  generalize w.heap.size = xb at *
  obtain ⟨x0, x1, t0, t1, z0, z1⟩ := HP.out.cells
  go_wp2_with fail
  refine (of_ref rfl HP.out.files hsrt s).mono ?_
  rintro e w2 ⟨rfl, hu2⟩
  have HP2 := Lib.hid (HP.out.next hu2)
  clear hu2 x0 x1 t0 t1 z0 z1
  unfold ofD
  cases hg : get En D s with
  | none =>
    have HR : Hid (renameD D s y = (D, 5)) := by show _ = _; unfold renameD; rw [hg]
    simp only
    unfold agE
    clear hg
    go_upto_region 2 with fail
    have HP3 := Lib.hid (HP2.out.next ((Upd.refl (fun _ => False) w2).alloc (.cells #[.string ⟨#[]⟩, .string ⟨#[]⟩, .int .i64 0] 54)))
    generalize w2.alloc (.cells #[.string ⟨#[]⟩, .string ⟨#[]⟩, .int .i64 0] 54) = w3 at *
    obtain ⟨x0, x1, t0, t1, z0, z1⟩ := HP3.out.cells
    go_wp2_with fail
    try simp only [Exit.inBlock, Exit.then]
    refine bodyPost_ret (results_row2 rfl _ _ (xb + 1) 33 _ (0, 0) _ rfl (cells2 HP3.out.res) Tryz.underlying33 rfl (by kernel_rfl)) rfl ?_
    rw [HR.out]
    exact ⟨a, cap, rfl, HP3.out.keeps H.out, HP3.out.post, .inl rfl⟩
  | some f =>
    simp only
    unfold agE
    have hfb : xb + 1 < w2.heap.size := lt_of_heap HP2.out.res
    have hfs := hsy f (get_some En hg).1
    have HG := Lib.hid hg
    clear hg
    go_upto_region 2 with fail
    have HP3 := Lib.hid (HP2.out.next ((Upd.refl (fun _ => False) w2).alloc (.cells #[.string f.name, .string f.bytes, .int .i64 (f.synced : Nat)] 54)))
    have hf1 := cell_of_heap (heap_alloc (w := w2) (.cells #[.string f.name, .string f.bytes, .int .i64 (f.synced : Nat)] 54)) 1
    have hf2 := cell_of_heap (heap_alloc (w := w2) (.cells #[.string f.name, .string f.bytes, .int .i64 (f.synced : Nat)] 54)) 2
    simp only [List.getElem?_toArray, List.getElem?_cons_zero, List.getElem?_cons_succ] at hf1 hf2
    generalize w2.alloc (.cells #[.string f.name, .string f.bytes, .int .i64 (f.synced : Nat)] 54) = w3 at *
    generalize w2.heap.size = fb at *
    obtain ⟨x0, x1, t0, t1, z0, z1⟩ := HP3.out.cells
    go_wp2_with fail
    refine (rname_any y _).mono ?_
    rintro e w' ⟨rfl, rfl⟩
    cases hok : nameOk y with
    | false =>
      have HR : Hid (renameD D s y = (D, 2)) := by show _ = _; unfold renameD; rw [HG.out]; simp [hok]
      go_wp2_with fail
      try simp only [Exit.inBlock, Exit.then]
      refine bodyPost_ret (results_row2 rfl _ _ (xb + 1) 33 _ (0, 0) _ rfl (cells2 HP3.out.res) Tryz.underlying33 rfl (by kernel_rfl)) rfl ?_
      rw [HR.out]
      exact ⟨a, cap, rfl, HP3.out.keeps H.out, HP3.out.post, .inl rfl⟩
    | true =>
      have HR : Hid (renameD D s y = (put En ⟨y, f.bytes, f.synced⟩ (Dk.drop En s D), 0)) := by show _ = _; unfold renameD; rw [HG.out]; simp [hok]
      go_wp2_with fail
      have HP4 := Lib.hid (HP3.out.next ((Upd.refl (fun _ => False) w3).drew))
      have hc0 : w3.drew.cell? ⟨xb, 0, none⟩ = some (.int .i64 R) ∧ w3.drew.cell? ⟨xb, 1, none⟩ = some (.slice a D.length cap) ∧ w3.drew.cell? ⟨fb, 1, none⟩ = some (.string f.bytes) ∧ w3.drew.cell? ⟨fb, 2, none⟩ = some (.int .i64 (f.synced : Nat)) := ⟨x0, x1, hf1, hf2⟩
      go_region_held3 (fun w' => w'.cell? ⟨xb, 0, none⟩ = some (.int .i64 R) ∧ w'.cell? ⟨xb, 1, none⟩ = some (.slice a D.length cap) ∧ w'.cell? ⟨fb, 1, none⟩ = some (.string f.bytes) ∧ w'.cell? ⟨fb, 2, none⟩ = some (.int .i64 (f.synced : Nat))) (first | exact hc0 | exact hc5 | exact hc6 | exact ⟨cell_upd upd2 hc6.1 (fun e => by omega), cell_upd upd2 hc6.2.1 (fun e => by omega), cell_upd upd2 hc6.2.2.1 (fun e => by omega), cell_upd upd2 hc6.2.2.2 (fun e => by omega)⟩) (first
        | (go_at_call 62; refine (without_any rfl HP4.out.files s hnm).mono ?_; rintro e w5 ⟨va, vc, rfl, g1, g2, g3⟩; have hc5 : w5.cell? ⟨xb, 0, none⟩ = some (.int .i64 R) ∧ w5.cell? ⟨xb, 1, none⟩ = some (.slice a D.length cap) ∧ w5.cell? ⟨fb, 1, none⟩ = some (.string f.bytes) ∧ w5.cell? ⟨fb, 2, none⟩ = some (.int .i64 (f.synced : Nat)) := ⟨cell_upd g2 hc0.1 (fun f => f), cell_upd g2 hc0.2.1 (fun f => f), cell_upd g2 hc0.2.2.1 (fun f => f), cell_upd g2 hc0.2.2.2 (fun f => f)⟩; have HP5 := Lib.hid (HP4.out.next g2); have G1 := Lib.hid g1; clear g1 g2 g3)
        | (go_at_call 24; refine (with_any rfl G1.out ⟨y, f.bytes, f.synced⟩ (srt_drop En hsrt s) (Nat.le_trans mem_drop_le hnm) (by simp only; omega)).mono ?_; rintro e w6 ⟨ua, uc, rfl, j1, j2, j3⟩; have hc6 : w6.cell? ⟨xb, 0, none⟩ = some (.int .i64 R) ∧ w6.cell? ⟨xb, 1, none⟩ = some (.slice a D.length cap) ∧ w6.cell? ⟨fb, 1, none⟩ = some (.string f.bytes) ∧ w6.cell? ⟨fb, 2, none⟩ = some (.int .i64 (f.synced : Nat)) := ⟨cell_upd j2 hc5.1 (fun f => f), cell_upd j2 hc5.2.1 (fun f => f), cell_upd j2 hc5.2.2.1 (fun f => f), cell_upd j2 hc5.2.2.2 (fun f => f)⟩; have HP6 := Lib.hid (HP5.out.next j2); have J1 := Lib.hid j1; have J3 := Lib.hid j3; obtain ⟨q0, q1, q2, q3, q4, q5⟩ := HP6.out.cells; clear j1 j2 j3))
      go_wp2_with fail
      try simp only [Exit.inBlock, Exit.then]
      refine bodyPost_ret (results_row2 rfl _ _ (xb + 1) 33 _ (0, 0) _ rfl (cells2 HP6.out.res) Tryz.underlying33 rfl (by kernel_rfl)) rfl ?_
      have hl := HP5.out.laid J1.out J3.out (v0 := .int .i64 R) (v1 := .slice ua (put En ⟨y, f.bytes, f.synced⟩ (Dk.drop En s D)).length uc)
      rw [HR.out]
      exact ⟨ua, uc, rfl, hl.1, HP6.out.post, .inr hl.2⟩
end Go.Proofs.YtgkegfgdpekehaaGreat
