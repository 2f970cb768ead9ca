/- The reference's Of, with, without. -/
import Derived.Test.YtgkegfgdpekehaaGreatDs
import Derived.Laws.ResultCell
import Derived.Laws.Rows
namespace Go.Proofs.YtgkegfgdpekehaaGreat
open Go.RowKit Go.Acre Go.Acre.Dk Go.Maps
theorem results_row2 {P : Program} {fn : Func} {p u : Tmp} {ty : TypeId} (h : fn.results = #[.cell p ty, .tmp u]) (tmps : Array Value) (w : World) (g : Nat) (t : TypeId) (cs : Array Value) (fr : Nat × Nat) (d : TypeDesc)
    (hp : tmps.getD p undef = .pointer (some ⟨g, 0, none⟩)) (hg : w.heap[g]? = some (.cells cs t fr))
    (hu : P.underlying ty = some d) (hd : (match d with | .struct _ | .array _ _ => true | _ => false) = true) (hi : (P.info? ty).map (·.size) = some cs.size) :
    (results fn tmps).run P w = .ok (.tuple #[.agg cs, tmps.getD u undef]) w := by
  rw [results_cell_tmp h, hp]
  simp [asAddr, run_loadVar_row w g t ty cs fr d hg hu hd hi, Result.andThen]
theorem cells3 {w : World} {b t : Nat} {a0 a1 a2 v0 v1 v2 : Value} (h : w.heap[b]? = some (.cells #[a0, a1, a2] t (0, 0))) :
    (((w.setCell ⟨b, 0, none⟩ v0).setCell ⟨b, 1, none⟩ v1).setCell ⟨b, 2, none⟩ v2).heap[b]? = some (.cells #[v0, v1, v2] t (0, 0)) := by
  have := heap_setCell (o := 2) (heap_setCell (o := 1) (heap_setCell (o := 0) h v0) v1) v2
  simpa using this
theorem upd3 {w : World} {b : Nat} {v0 v1 v2 : Value} : Upd (fun i => i = b) w (((w.setCell ⟨b, 0, none⟩ v0).setCell ⟨b, 1, none⟩ v1).setCell ⟨b, 2, none⟩ v2) :=
  Upd.setCell (Upd.setCell (Upd.setCell (Upd.refl (fun i => i = b) w) (p := ⟨b, 0, none⟩) (fun _ => rfl) _) (p := ⟨b, 1, none⟩) (fun _ => rfl) _) (p := ⟨b, 2, none⟩) (fun _ => rfl) _
theorem cells2 {w : World} {b t : Nat} {a0 a1 v0 v1 : Value} (h : w.heap[b]? = some (.cells #[a0, a1] t (0, 0))) :
    ((w.setCell ⟨b, 0, none⟩ v0).setCell ⟨b, 1, none⟩ v1).heap[b]? = some (.cells #[v0, v1] t (0, 0)) := by
  have := heap_setCell (o := 1) (heap_setCell (o := 0) h v0) v1
  simpa using this
theorem upd2 {w : World} {b : Nat} {v0 v1 : Value} : Upd (fun i => i = b) w ((w.setCell ⟨b, 0, none⟩ v0).setCell ⟨b, 1, none⟩ v1) :=
  Upd.setCell (Upd.setCell (Upd.refl (fun i => i = b) w) (p := ⟨b, 0, none⟩) (fun _ => rfl) _) (p := ⟨b, 1, none⟩) (fun _ => rfl) _
def ze : Ent := ⟨⟨#[]⟩, ⟨#[]⟩, 0⟩
set_option maxHeartbeats 2000000 in
set_option maxRecDepth 100000 in
theorem of_ref {w : World} {R : Int} {a : Option Addr} {n cap : Nat} {D : Files} (hn : n = D.length) (h : FilesAt w (.slice a n cap) D) (hsrt : Srt En D) (s : ByteArray) : Calls Tryz.prog 23 #[.agg #[.int .i64 R, .slice a n cap], .string s] w (OfPost D s w) := by
  have hb := h.bound
  have HN := Lib.hid hn
  have hnb : n ≤ 9223372036854775807 := by unfold maxLen at hb; omega
  have hu1 : Upd (fun _ => False) w (w.alloc (.cells #[.int .i64 R, .slice a n cap] 33)) := (Upd.refl _ w).alloc _
  have hx1 := heap_alloc (w := w) (.cells #[.int .i64 R, .slice a n cap] 33)
  have hs1 : (w.alloc (.cells #[.int .i64 R, .slice a n cap] 33)).heap.size = w.heap.size + 1 := by simp
  have hx2 := heap_alloc (w := w.alloc (.cells #[.int .i64 R, .slice a n cap] 33)) (.cells #[.string ⟨#[]⟩, .string ⟨#[]⟩, .int .i64 0] 54)
  rw [hs1] at hx2
  have hu2 : Upd (fun _ => False) (w.alloc (.cells #[.int .i64 R, .slice a n cap] 33)) ((w.alloc (.cells #[.int .i64 R, .slice a n cap] 33)).alloc (.cells #[.string ⟨#[]⟩, .string ⟨#[]⟩, .int .i64 0] 54)) := (Upd.refl _ _).alloc _
  have hx1' := hu2.keep hx1 (fun f => f)
  have hu := hu1.trans hu2 (fun _ _ h => h)
  have H1 := Lib.hid (h.upd0 hu)
  clear h hn hb hu1 hu2 hx1
  go_enter Tryz.func23, Tryz.ntmps23
  go_upto_region 1 with fail
  have x0 := cell_of_heap hx1' 0
  have x1 := cell_of_heap hx1' 1
  simp only [List.getElem?_toArray, List.getElem?_cons_zero, List.getElem?_cons_succ] at x0 x1
  generalize (w.alloc (.cells #[.int .i64 R, .slice a n cap] 33)).alloc (.cells #[.string ⟨#[]⟩, .string ⟨#[]⟩, .int .i64 0] 54) = wb at *
  generalize hxb : w.heap.size = xb at *
  have HXB := Lib.hid hxb
  clear hxb hs1
  go_wp2_with fail
  refine (find_any HN.out H1.out s).mono ?_
  rintro e w2 ⟨rfl, hu2⟩
  have y1 := cell_upd hu2 x1 (fun f => f)
  have hx3 := hu2.keep hx2 (fun f => f)
  have t0 := cell_of_heap hx3 0
  have t1 := cell_of_heap hx3 1
  have t2 := cell_of_heap hx3 2
  simp only [List.getElem?_toArray, List.getElem?_cons_zero, List.getElem?_cons_succ] at t0 t1 t2
  have HX3 := Lib.hid hx3
  have z0 := frozen_of_heap hx3 0 none
  have z1 := frozen_of_heap hx3 1 none
  have z2 := frozen_of_heap hx3 2 none
  have HU := Lib.hid (hu.trans hu2 (fun _ _ h => h))
  have H2 := Lib.hid (H1.out.upd0 hu2)
  obtain ⟨g1, g2⟩ := find_get hsrt s
  cases hfb : findB D s with
  | false =>
    have hg := g2 hfb
    have HO : Hid (ofD D s = (ze, false)) := by show _ = _; unfold ofD; rw [hg]; rfl
    clear g1 g2 hg hfb x0 x1
    go_wp2_with fail
    try simp only [Exit.inBlock, Exit.then]
    refine bodyPost_ret (results_row2 rfl _ _ (xb + 1) 54 _ (0, 0) _ rfl (cells3 HX3.out) Tryz.underlying54 rfl (by kernel_rfl)) rfl ?_
    exact ⟨by rw [HO.out]; rfl, HU.out.trans upd3 (fun i hi e => by have := HXB.out; omega)⟩
  | true =>
    obtain ⟨hk, hg⟩ := g1 hfb
    have HO : Hid (ofD D s = (D[findI D s], true)) := by show _ = _; unfold ofD; rw [hg]
    have hkn : findI D s < n := by rw [HN.out]; exact hk
    clear g1 g2 hg hfb x0 x1
    obtain ⟨g, o, rfl, c0, c1, c2⟩ := H2.out.cell hk
    generalize D[findI D s] = f at *
    generalize findI D s = k at *
    have hkn2 : (k : Int) < (n : Int) := by omega
    clear hx2 hx1' hx3
    go_wp2_with fail
    try simp only [Exit.inBlock, Exit.then]
    refine bodyPost_ret (results_row2 rfl _ _ (xb + 1) 54 _ (0, 0) _ rfl (cells3 HX3.out) Tryz.underlying54 rfl (by kernel_rfl)) rfl ?_
    exact ⟨by rw [HO.out]; rfl, HU.out.trans upd3 (fun i hi e => by have := HXB.out; omega)⟩
end Go.Proofs.YtgkegfgdpekehaaGreat
