/- The reference's Append, Sync, Read, Rename, Remove. -/
import Derived.Test.YtgkegfgdpekehaaGreatDv
namespace Go.Proofs.YtgkegfgdpekehaaGreat
open Go.RowKit Go.Acre Go.Acre.Dk Go.Maps
def dkv (R : Int) (a : Option Addr) (n cap : Nat) : Obj := .cells #[.int .i64 R, .slice a n cap] 69
structure Pre2 (w wb : World) (xb : Nat) (R : Int) (a : Option Addr) (n cap : Nat) (D : Files) : Prop where
  box : wb.heap[xb]? = some (.cells #[.int .i64 R, .slice a n cap] 33 (0, 0))
  res : wb.heap[xb + 1]? = some (.cells #[.int .i64 0, .slice none 0 0] 33 (0, 0))
  files : FilesAt wb (.slice a n cap) D
  upd : Upd (fun _ => False) w wb
  at0 : w.heap.size = xb
theorem pre2 {w : World} {R : Int} {a : Option Addr} {n cap : Nat} {D : Files} (h : FilesAt w (.slice a n cap) D) :
    Pre2 w ((w.alloc (.cells #[.int .i64 R, .slice a n cap] 33)).alloc (.cells #[.int .i64 0, .slice none 0 0] 33)) w.heap.size R a n cap D := by
  have hu : Upd (fun _ => False) w ((w.alloc (.cells #[.int .i64 R, .slice a n cap] 33)).alloc (.cells #[.int .i64 0, .slice none 0 0] 33)) := ((Upd.refl _ w).alloc _).alloc _
  exact ⟨heap_alloc2_old _ _ _, heap_alloc2_new _ _ _, h.upd0 hu, hu, rfl⟩
theorem Pre2.next {w wb wc : World} {xb : Nat} {R : Int} {a : Option Addr} {n cap : Nat} {D : Files} (h : Pre2 w wb xb R a n cap D) (hu : Upd (fun _ => False) wb wc) : Pre2 w wc xb R a n cap D :=
  ⟨hu.keep h.box (fun f => f), hu.keep h.res (fun f => f), h.files.upd0 hu, h.upd.trans hu (fun _ _ h => h), h.at0⟩
theorem Pre2.cells {w wb : World} {xb : Nat} {R : Int} {a : Option Addr} {n cap : Nat} {D : Files} (h : Pre2 w wb xb R a n cap D) :
    wb.cell? ⟨xb, 0, none⟩ = some (.int .i64 R) ∧ wb.cell? ⟨xb, 1, none⟩ = some (.slice a n cap) ∧ wb.cell? ⟨xb + 1, 0, none⟩ = some (.int .i64 0) ∧ wb.cell? ⟨xb + 1, 1, none⟩ = some (.slice none 0 0) ∧ wb.frozen? ⟨xb + 1, 0, none⟩ = false ∧ wb.frozen? ⟨xb + 1, 1, none⟩ = false :=
  ⟨cell_of_heap h.box 0, cell_of_heap h.box 1, cell_of_heap h.res 0, cell_of_heap h.res 1, frozen_of_heap h.res 0 none, frozen_of_heap h.res 1 none⟩
def RefPost2 (R : Int) (vin : Value) (r : Files × Nat) (w : World) (e : Ending) (w' : World) : Prop := ∃ a cap, e = .returned (.tuple #[.agg #[.int .i64 R, .slice a r.1.length cap], .int .i64 (r.2 : Nat)]) ∧ FilesAt w' (.slice a r.1.length cap) r.1 ∧ Upd (fun _ => False) w w' ∧ (.slice a r.1.length cap = vin ∨ ∀ g, (Value.slice a r.1.length cap).ownBlock = some g → w.heap.size ≤ g)
theorem Pre2.post {w wb : World} {xb : Nat} {R : Int} {a : Option Addr} {n cap : Nat} {D : Files} (h : Pre2 w wb xb R a n cap D) {v0 v1 : Value} : Upd (fun _ => False) w ((wb.setCell ⟨xb + 1, 0, none⟩ v0).setCell ⟨xb + 1, 1, none⟩ v1) :=
  h.upd.trans (upd2 (b := xb + 1)) (fun i hi e => by have := h.at0; omega)
theorem Pre2.keeps {w wb : World} {xb : Nat} {R : Int} {a : Option Addr} {n cap : Nat} {D : Files} (h : Pre2 w wb xb R a n cap D) (h0 : FilesAt w (.slice a n cap) D) {v0 v1 : Value} : FilesAt ((wb.setCell ⟨xb + 1, 0, none⟩ v0).setCell ⟨xb + 1, 1, none⟩ v1) (.slice a n cap) D :=
  h0.upd0 h.post
/-- what with or without hands back lies in new memory: laid into the result's cell it stays -/
theorem Pre2.laid {w wb wc : World} {xb : Nat} {R : Int} {a : Option Addr} {n cap : Nat} {D D' : Files} (h : Pre2 w wb xb R a n cap D) {va : Option Addr} {vc : Nat} (h1 : FilesAt wc (.slice va D'.length vc) D') (h2 : ∀ g, (Value.slice va D'.length vc).ownBlock = some g → wb.heap.size ≤ g) {v0 v1 : Value} :
    FilesAt ((wc.setCell ⟨xb + 1, 0, none⟩ v0).setCell ⟨xb + 1, 1, none⟩ v1) (.slice va D'.length vc) D' ∧ ∀ g, (Value.slice va D'.length vc).ownBlock = some g → w.heap.size ≤ g :=
  ⟨RowAt.upd_own (S := fun i => i = xb + 1) h1 upd2 (fun g hg e => by have := h2 g hg; have := lt_of_heap h.res; omega), fun g hg => Nat.le_trans h.upd.size (h2 g hg)⟩
set_option maxHeartbeats 2000000 in
set_option maxRecDepth 100000 in
theorem rsync_any {w : World} {R : Int} {a : Option Addr} {cap : Nat} {D : Files} (h : FilesAt w (.slice a D.length cap) D) (hsrt : Srt En D) (hnm : D.length ≤ 1000000) (hsy : ∀ f ∈ D, f.bytes.size ≤ 9223372036854775807) (s : ByteArray) : Calls Tryz.prog 36 #[.agg #[.int .i64 R, .slice a D.length cap], .string s] w (RefPost2 R (.slice a D.length cap) (syncD D s) w) := by
  have H := Lib.hid h
  have HP := Lib.hid (pre2 (R := R) h)
  clear h
  go_enter Tryz.func36, Tryz.ntmps36
  go_upto_region 1 with fail
  generalize (w.alloc (.cells #[.int .i64 R, .slice a D.length cap] 33)).alloc (.cells #[.int .i64 0, .slice none 0 0] 33) = wb at *
  generalize w.heap.size = xb at *
  obtain ⟨x0, x1, t0, t1, z0, z1⟩ := HP.out.cells
  go_wp2_with fail
  refine (of_ref rfl HP.out.files hsrt s).mono ?_
  rintro e w2 ⟨rfl, hu2⟩
  have HP2 := Lib.hid (HP.out.next hu2)
  clear hu2 x0 x1 t0 t1 z0 z1
  unfold ofD
  cases hg : get En D s with
  | none =>
    have HR : Hid (syncD D s = (D, 5)) := by show _ = _; unfold syncD; rw [hg]
    simp only
    unfold agE
    clear hg
    go_upto_region 2 with fail
    have HP3 := Lib.hid (HP2.out.next ((Upd.refl (fun _ => False) w2).alloc (.cells #[.string ⟨#[]⟩, .string ⟨#[]⟩, .int .i64 0] 54)))
    generalize w2.alloc (.cells #[.string ⟨#[]⟩, .string ⟨#[]⟩, .int .i64 0] 54) = w3 at *
    obtain ⟨x0, x1, t0, t1, z0, z1⟩ := HP3.out.cells
    go_wp2_with fail
    try simp only [Exit.inBlock, Exit.then]
    refine bodyPost_ret (results_row2 rfl _ _ (xb + 1) 33 _ (0, 0) _ rfl (cells2 HP3.out.res) Tryz.underlying33 rfl (by kernel_rfl)) rfl ?_
    rw [HR.out]
    exact ⟨a, cap, rfl, HP3.out.keeps H.out, HP3.out.post, .inl rfl⟩
  | some f =>
    simp only
    unfold agE
    have hsz := hsy f (get_some En hg).1
    have HR : Hid (syncD D s = (put En ⟨s, f.bytes, f.bytes.size⟩ D, 0)) := by show _ = _; unfold syncD; rw [hg]
    go_upto_region 2 with fail
    have HP3 := Lib.hid (HP2.out.next ((Upd.refl (fun _ => False) w2).alloc (.cells #[.string f.name, .string f.bytes, .int .i64 (f.synced : Nat)] 54)))
    have hf1 := cell_of_heap (heap_alloc (w := w2) (.cells #[.string f.name, .string f.bytes, .int .i64 (f.synced : Nat)] 54)) 1
    simp only [List.getElem?_toArray, List.getElem?_cons_zero, List.getElem?_cons_succ] at hf1
    generalize w2.alloc (.cells #[.string f.name, .string f.bytes, .int .i64 (f.synced : Nat)] 54) = w3 at *
    generalize w2.heap.size = fb at *
    obtain ⟨x0, x1, t0, t1, z0, z1⟩ := HP3.out.cells
    go_wp2_with fail
    refine (with_any rfl HP3.out.files ⟨s, f.bytes, f.bytes.size⟩ hsrt hnm (by simp only; omega)).mono ?_
    rintro e w4 ⟨va, vc, rfl, g1, g2, g3⟩
    have HP4 := Lib.hid (HP3.out.next g2)
    have G1 := Lib.hid g1
    have G3 := Lib.hid g3
    clear x0 x1 t0 t1 z0 z1 hf1 g1 g2 g3
    obtain ⟨x0, x1, t0, t1, z0, z1⟩ := HP4.out.cells
    go_wp2_with fail
    try simp only [Exit.inBlock, Exit.then]
    refine bodyPost_ret (results_row2 rfl _ _ (xb + 1) 33 _ (0, 0) _ rfl (cells2 HP4.out.res) Tryz.underlying33 rfl (by kernel_rfl)) rfl ?_
    have hl := HP3.out.laid G1.out G3.out (v0 := .int .i64 R) (v1 := .slice va (put En ⟨s, f.bytes, f.bytes.size⟩ D).length vc)
    rw [HR.out]
    exact ⟨va, vc, rfl, hl.1, HP4.out.post, .inr hl.2⟩
end Go.Proofs.YtgkegfgdpekehaaGreat
