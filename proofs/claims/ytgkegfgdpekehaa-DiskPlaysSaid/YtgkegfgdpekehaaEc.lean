/- A step of DiskPlays. -/
import Derived.Test.YtgkegfgdpekehaaEb
import Derived.Test.YtgkegfgdpekehaaDz
import Derived.Test.YtgkegfgdpekehaaDk
namespace Go.Proofs.Ytgkegfgdpekehaa
open Go.RowKit Go.Acre Go.Acre.Dk Go.Maps
/-- the three blocks that a step makes first -/
structure SB (w wb : World) (xb : Nat) (R : Nat) (a : Option Addr) (n cap : Nat) (k : Int) (nm dt : ByteArray) (kv : Value) : Prop where
  at0 : w.heap.size = xb
  b4 : wb.heap[xb]? = some (.cells #[.int .i64 (R : Nat), .slice a n cap] 69 (0, 0))
  b5 : wb.heap[xb + 1]? = some (.cells #[.int .i64 k, .string nm, .string dt, kv] 74 (0, 0))
  b7 : wb.heap[xb + 1 + 1]? = some (.cells #[.int .i64 0, .slice none 0 0] 69 (0, 0))
theorem SB.next {w wb wc : World} {xb R : Nat} {a : Option Addr} {n cap : Nat} {k : Int} {nm dt : ByteArray} {kv : Value} (h : SB w wb xb R a n cap k nm dt kv) {T : Nat → Prop} (hu : Upd T wb wc) (hT : ∀ k, T k → k < xb ∨ xb + 1 + 1 < k) : SB w wc xb R a n cap k nm dt kv :=
  ⟨h.at0, hu.keep h.b4 (fun t => by have := hT _ t; omega), hu.keep h.b5 (fun t => by have := hT _ t; omega), hu.keep h.b7 (fun t => by have := hT _ t; omega)⟩
theorem SB.lt {w wb : World} {xb R : Nat} {a : Option Addr} {n cap : Nat} {k : Int} {nm dt : ByteArray} {kv : Value} (h : SB w wb xb R a n cap k nm dt kv) : xb + 1 + 1 < wb.heap.size := lt_of_heap h.b7
theorem SB.cells {w wb : World} {xb R : Nat} {a : Option Addr} {n cap : Nat} {k : Int} {nm dt : ByteArray} {kv : Value} (h : SB w wb xb R a n cap k nm dt kv) :
    wb.cell? ⟨xb, 0, none⟩ = some (.int .i64 (R : Nat)) ∧ wb.cell? ⟨xb, 1, none⟩ = some (.slice a n cap) ∧ wb.cell? ⟨xb + 1, 0, none⟩ = some (.int .i64 k) ∧ wb.cell? ⟨xb + 1, 1, none⟩ = some (.string nm) ∧ wb.cell? ⟨xb + 1, 2, none⟩ = some (.string dt) ∧ wb.cell? ⟨xb + 1, 3, none⟩ = some kv ∧
    wb.cell? ⟨xb + 1 + 1, 0, none⟩ = some (.int .i64 0) ∧ wb.cell? ⟨xb + 1 + 1, 1, none⟩ = some (.slice none 0 0) ∧ wb.frozen? ⟨xb + 1 + 1, 0, none⟩ = false ∧ wb.frozen? ⟨xb + 1 + 1, 1, none⟩ = false :=
  ⟨cell_of_heap h.b4 0, cell_of_heap h.b4 1, cell_of_heap h.b5 0, cell_of_heap h.b5 1, cell_of_heap h.b5 2, cell_of_heap h.b5 3, cell_of_heap h.b7 0, cell_of_heap h.b7 1, frozen_of_heap h.b7 0 none, frozen_of_heap h.b7 1 none⟩
theorem sb_make (w : World) (R : Nat) (a : Option Addr) (n cap : Nat) (k : Int) (nm dt : ByteArray) (kv : Value) :
    SB w (((w.alloc (.cells #[.int .i64 (R : Nat), .slice a n cap] 69)).alloc (.cells #[.int .i64 k, .string nm, .string dt, kv] 74)).alloc (.cells #[.int .i64 0, .slice none 0 0] 69)) w.heap.size R a n cap k nm dt kv ∧
    Upd (fun _ => False) w (((w.alloc (.cells #[.int .i64 (R : Nat), .slice a n cap] 69)).alloc (.cells #[.int .i64 k, .string nm, .string dt, kv] 74)).alloc (.cells #[.int .i64 0, .slice none 0 0] 69)) := by
  have u1 : Upd (fun _ => False) w (w.alloc (.cells #[.int .i64 (R : Nat), .slice a n cap] 69)) := (Upd.refl _ w).alloc _
  have a1 := heap_alloc (w := w) (.cells #[.int .i64 (R : Nat), .slice a n cap] 69)
  have z1 : (w.alloc (.cells #[.int .i64 (R : Nat), .slice a n cap] 69)).heap.size = w.heap.size + 1 := by simp
  generalize w.alloc (.cells #[.int .i64 (R : Nat), .slice a n cap] 69) = wa at *
  have u2 : Upd (fun _ => False) wa (wa.alloc (.cells #[.int .i64 k, .string nm, .string dt, kv] 74)) := (Upd.refl _ wa).alloc _
  have a2 := heap_alloc (w := wa) (.cells #[.int .i64 k, .string nm, .string dt, kv] 74)
  have z2 : (wa.alloc (.cells #[.int .i64 k, .string nm, .string dt, kv] 74)).heap.size = wa.heap.size + 1 := by simp
  generalize wa.alloc (.cells #[.int .i64 k, .string nm, .string dt, kv] 74) = wb at *
  have u3 : Upd (fun _ => False) wb (wb.alloc (.cells #[.int .i64 0, .slice none 0 0] 69)) := (Upd.refl _ wb).alloc _
  have a3 := heap_alloc (w := wb) (.cells #[.int .i64 0, .slice none 0 0] 69)
  generalize wb.alloc (.cells #[.int .i64 0, .slice none 0 0] 69) = wc at *
  rw [z1] at a2
  rw [z2, z1] at a3
  exact ⟨⟨rfl, u3.keep (u2.keep a1 (fun f => f)) (fun f => f), u3.keep a2 (fun f => f), a3⟩, (u1.trans u2 (fun _ _ h => h)).trans u3 (fun _ _ h => h)⟩
theorem info3d : (Try.prog.info? 3).map (fun i => (i.zero, i.size, i.bytes)) = some (some (.int .i64 0), 1, 8) := by kernel_rfl
/-- what stands behind a step -/
theorem dstep_last {w w5 : World} {S S' : Nat → Prop} {xb db' room n m : Nat} {va : Option Addr} {vc : Nat} {D D' : Files} (h0 : w.heap.size = xb) (hh : Has w5 S' db' room (n + 1) D') (h5 : ∀ k, S' k → S k ∨ xb ≤ k) (hne : ∀ k, S' k → k ≠ xb + 1 + 1) (hu : Upd S w w5)
    (hf : FilesAt w5 (.slice va D'.length vc) D') (ha : Apart S' (.slice va D'.length vc) D') (hb : Apart (fun k => k = xb + 1 + 1) (.slice va D'.length vc) D') {vin : Value} (hv : Value.slice va D'.length vc = vin ∨ ∀ g, (Value.slice va D'.length vc).ownBlock = some g → xb ≤ g) (hg : Grew D D' m) (v0 v1 : Value) :
    StepPost S w room n vin D m (.returned (.tuple #[.pointer (some ⟨db', 0, none⟩), .agg #[.int .i64 (room : Nat), .slice va D'.length vc], .bool true])) ((w5.setCell ⟨xb + 1 + 1, 0, none⟩ v0).setCell ⟨xb + 1 + 1, 1, none⟩ v1) := by
  have hu2 : Upd (fun i => i = xb + 1 + 1) w5 ((w5.setCell ⟨xb + 1 + 1, 0, none⟩ v0).setCell ⟨xb + 1 + 1, 1, none⟩ v1) := upd2
  exact ⟨db', va, vc, D', S', rfl, hh.upd hu2 (fun k hk e => hne k hk e), fun k hk => (h5 k hk).imp id (fun e => by omega), hu.trans hu2 (fun i hi e => by omega), hf.updS hu2 hb, ha, hg, hv.imp id (fun h g hg => by have := h g hg; omega)⟩
theorem StepPost.drew {S : Nat → Prop} {w w' : World} {room n m : Nat} {D : Files} {vin : Value} {e : Ending} (h : StepPost S w room n vin D m e w') : StepPost S w room n vin D m e w'.drew := by
  obtain ⟨db', a', cap', D', S', h1, h2, h3, h4, h5, h6, h7, h8⟩ := h
  exact ⟨db', a', cap', D', S', h1, h2.upd (Upd.refl (fun _ => False) w').drew (fun _ _ f => f), h3, h4.drew, h5.upd0 (Upd.refl (fun _ => False) w').drew, h6, h7, h8⟩
theorem dstep_op {w w4 w5 : World} {S S' : Nat → Prop} {xb db room n m : Nat} {va : Option Addr} {vc : Nat} {D D' : Files} (h0 : w.heap.size = xb) (hS : ∀ k, S k → k < xb) (h1 : Upd (fun _ => False) w w4) (hlt : xb + 1 + 1 < w4.heap.size) (h2 : FilesAt w4 (.slice va D'.length vc) D')
    {vin : Value} (h3 : Apart S (.slice va D'.length vc) D' ∧ Apart (fun k => k = xb + 1 + 1) (.slice va D'.length vc) D' ∧ (Value.slice va D'.length vc = vin ∨ ∀ g, (Value.slice va D'.length vc).ownBlock = some g → xb ≤ g)) (g1 : Has w5 S' db room (n + 1) D') (g2 : ∀ k, S' k → S k ∨ w4.heap.size ≤ k) (g3 : Upd S w4 w5) (h8 : Grew D D' m) (v0 v1 : Value) :
    StepPost S w room n vin D m (.returned (.tuple #[.pointer (some ⟨db, 0, none⟩), .agg #[.int .i64 (room : Nat), .slice va D'.length vc], .bool true])) ((w5.setCell ⟨xb + 1 + 1, 0, none⟩ v0).setCell ⟨xb + 1 + 1, 1, none⟩ v1) := by
  refine dstep_last h0 g1 (fun k hk => (g2 k hk).imp id (fun e => by omega)) (fun k hk e => ?_) ((h1.mono (T := S) (fun _ _ f => f.elim)).trans g3 (fun _ _ h => h)) (h2.updS g3 h3.1) (fun hne g hg hs => ?_) h3.2.1 h3.2.2 h8 v0 v1
  · rcases g2 k hk with h | h
    · have := hS k h; omega
    · omega
  · rcases g2 g hs with h | h
    · exact h3.1 hne g hg h
    · have := h2.lt hne g hg; omega
/-- the reference's row is not the disk's, and not the result's cell -/
theorem ref_apart {w wb : World} {S : Nat → Prop} {xb cap cap2 : Nat} {a b : Option Addr} {D D' : Files} (h0 : w.heap.size = xb) (hS : ∀ k, S k → k < xb) (hf : FilesAt w (.slice a D.length cap) D) (ha : Apart S (.slice a D.length cap) D) (hb : xb + 1 + 1 < wb.heap.size)
    (h : Value.slice b D'.length cap2 = .slice a D.length cap ∨ ∀ g, (Value.slice b D'.length cap2).ownBlock = some g → wb.heap.size ≤ g) : Apart S (.slice b D'.length cap2) D' ∧ Apart (fun k => k = xb + 1 + 1) (.slice b D'.length cap2) D' ∧ (Value.slice b D'.length cap2 = .slice a D.length cap ∨ ∀ g, (Value.slice b D'.length cap2).ownBlock = some g → xb ≤ g) := by
  rcases h with h | h
  · have hl : D'.length = D.length := by simp only [Value.slice.injEq] at h; exact h.2.1
    have hne : D' ≠ [] → D ≠ [] := fun h1 h2 => by
      subst h2
      exact h1 (List.eq_nil_of_length_eq_zero hl)
    rw [h]
    exact ⟨fun h1 => ha (hne h1), fun h1 g hg e => by have := hf.lt (hne h1) g hg; omega, .inl rfl⟩
  · exact ⟨fun _ g hg hs => by have := h g hg; have := hS g hs; omega, fun _ g hg e => by have := h g hg; omega, .inr fun g hg => by have := h g hg; omega⟩
set_option maxHeartbeats 4000000 in
set_option maxRecDepth 100000 in
theorem dstep_any {w : World} {S : Nat → Prop} {db room n : Nat} {D : Files} (h : Has w S db room n D) {a : Option Addr} {cap : Nat} (hf : FilesAt w (.slice a D.length cap) D) (ha : Apart S (.slice a D.length cap) D) (k : Int) (nm dt : ByteArray) (hnm : nm.size ≤ maxLen) (hdt : dt.size ≤ 140737488351232)
    (ka : Option Addr) (kl kc : Nat) (zs : List Int) (hkl : kl = zs.length) (hkb : kl * 8 ≤ 140737488351232) (hz : IntsAt .i64 w (.slice ka kl kc) zs) (hzw : ∀ z ∈ zs, -9223372036854775808 ≤ z ∧ z ≤ 9223372036854775807) (hza : zs ≠ [] → ∀ g, (Value.slice ka kl kc).ownBlock = some g → ¬ S g)
    (hn : n ≤ 1000) (hlen : D.length ≤ 1000) (htot : total D ≤ 2305843009213693952) (hR : room ≤ 9223372036854775807) (hk : -9223372036854775808 ≤ k ∧ k ≤ 9223372036854775807) :
    Calls Try.prog 52 #[.pointer (some ⟨db, 0, none⟩), .agg #[.int .i64 (room : Nat), .slice a D.length cap], .agg #[.int .i64 k, .string nm, .string dt, .slice ka kl kc]] w (StepPost S w room n (.slice a D.length cap) D dt.size) := by
  obtain ⟨m, q, hm, hm1, hm2, hq7, hq⟩ := seven k
  have hSB := sb_make w room a D.length cap k nm dt (.slice ka kl kc)
  have hmay := h.may
  have hbel := has_below h
  have H := Lib.hid (h.upd hSB.2 (fun _ _ f => f))
  have HF := Lib.hid (hf.upd0 hSB.2)
  have HA := Lib.hid ha
  have HZ := Lib.hid (IntsAt.upd0 hz hSB.2)
  have HKL := Lib.hid hkl
  have HZW := Lib.hid hzw
  have HZA := Lib.hid hza
  have HM := Lib.hid hmay
  have HB := Lib.hid hbel
  have HS := Lib.hid hSB.1
  have HRA : Hid (∀ (wb : World) (b : Option Addr) (D' : Files) (cap2 : Nat), w.heap.size + 1 + 1 < wb.heap.size → (Value.slice b D'.length cap2 = .slice a D.length cap ∨ ∀ g, (Value.slice b D'.length cap2).ownBlock = some g → wb.heap.size ≤ g) → Apart S (.slice b D'.length cap2) D' ∧ Apart (fun k => k = w.heap.size + 1 + 1) (.slice b D'.length cap2) D' ∧ (Value.slice b D'.length cap2 = .slice a D.length cap ∨ ∀ g, (Value.slice b D'.length cap2).ownBlock = some g → w.heap.size ≤ g)) := fun wb b D' cap2 h1 h2 => ref_apart rfl hbel hf ha h1 h2
  have HU := Lib.hid hSB.2
  have hxb0 : w.heap.size = w.heap.size := rfl
  clear h hf ha hz hkl hzw hza hmay hbel hSB
  go_enter Try.func52, Try.ntmps52
  go_upto_region 1 with fail
  generalize ((w.alloc (.cells #[.int .i64 (room : Nat), .slice a D.length cap] 69)).alloc (.cells #[.int .i64 k, .string nm, .string dt, .slice ka kl kc] 74)).alloc (.cells #[.int .i64 0, .slice none 0 0] 69) = wb at *
  generalize hxb : w.heap.size = xb at *
  have HXB := Lib.hid hxb
  clear hxb hxb0
  obtain ⟨x0, x1, p0, p1, p2, p3, t0, t1, z0, z1⟩ := HS.out.cells
  rcases (by omega : q = 0 ∨ q = 1 ∨ q = 2 ∨ q = 3 ∨ q = 4 ∨ q = 5 ∨ q = 6) with rfl | rfl | rfl | rfl | rfl | rfl | rfl
  · go_wp2_with fail
    refine (rappend_any HF.out HM.out hR (by omega) nm dt (by omega)).mono ?_
    rintro e w3 ⟨va, vc, rfl, g1, g2, g3⟩
    have H3 := Lib.hid (H.out.upd g2 (fun _ _ f => f))
    have HS3 := Lib.hid (HS.out.next g2 (fun _ f => f.elim))
    have HF3 := Lib.hid g1
    have HAP := Lib.hid (HRA.out _ _ _ _ HS.out.lt g3)
    have HU3 := Lib.hid (HU.out.trans g2 (fun _ _ f => f))
    have HGR := Lib.hid (grew_append HM.out nm dt)
    clear g1 g2 g3 x0 x1 p0 p1 p2 p3 t0 t1 z0 z1
    have HOP : Hid (∀ w', Has w' S db room n D → Calls Try.prog 43 #[.pointer (some ⟨db, 0, none⟩), .string nm, .string dt] w' (Op S w' db room (n + 1) (appendD room D nm dt).1 (appendD room D nm dt).2)) := fun w' h => append_any h nm dt hnm (by omega) (by unfold maxLen; omega)
    generalize (appendD room D nm dt).1 = D' at *
    generalize (appendD room D nm dt).2 = cd at *
    go_upto_region 4 with fail
    have ua : Upd (fun _ => False) w3 (w3.alloc (.cells #[.int .i64 (room : Nat), .slice va D'.length vc] 69)) := (Upd.refl _ w3).alloc _
    have q0 := cell_of_heap (heap_alloc (w := w3) (.cells #[.int .i64 (room : Nat), .slice va D'.length vc] 69)) 0
    have q1 := cell_of_heap (heap_alloc (w := w3) (.cells #[.int .i64 (room : Nat), .slice va D'.length vc] 69)) 1
    simp only [List.getElem?_toArray, List.getElem?_cons_zero, List.getElem?_cons_succ] at q0 q1
    have HU4 := Lib.hid ((HU3.out.trans ua (fun _ _ f => f)).drew)
    have H4 := Lib.hid (H3.out.upd (ua.drew) (fun _ _ f => f))
    have HS4 := Lib.hid (HS3.out.next (ua.drew) (fun _ f => f.elim))
    have HF4 := Lib.hid (HF3.out.upd0 (ua.drew))
    clear ua
    generalize w3.alloc (.cells #[.int .i64 (room : Nat), .slice va D'.length vc] 69) = w4 at *
    generalize hfb : w3.heap.size = fb at *
    have hfx : xb + 1 + 1 < fb := by have := HS3.out.lt; omega
    clear hfb
    obtain ⟨x0, x1, p0, p1, p2, p3, t0, t1, z0, z1⟩ := HS4.out.cells
    go_wp2_with fail
    have hc0 : w4.drew.cell? ⟨fb, 0, none⟩ = some (.int .i64 (room : Nat)) ∧ w4.drew.cell? ⟨fb, 1, none⟩ = some (.slice va D'.length vc) ∧ w4.drew.cell? ⟨xb + 1, 1, none⟩ = some (.string nm) ∧ w4.drew.cell? ⟨xb + 1, 2, none⟩ = some (.string dt) := ⟨q0, q1, p1, p2⟩
    have HC0 := Lib.hid hc0
    have hkp : ∀ w5 : World, Upd S w4.drew w5 → w5.cell? ⟨fb, 0, none⟩ = some (.int .i64 (room : Nat)) ∧ w5.cell? ⟨fb, 1, none⟩ = some (.slice va D'.length vc) ∧ w5.cell? ⟨xb + 1, 1, none⟩ = some (.string nm) ∧ w5.cell? ⟨xb + 1, 2, none⟩ = some (.string dt) := fun w5 g3 => ⟨cell_upd g3 HC0.out.1 (fun s => by have := HB.out _ s; omega), cell_upd g3 HC0.out.2.1 (fun s => by have := HB.out _ s; omega), cell_upd g3 HC0.out.2.2.1 (fun s => by have := HB.out _ s; omega), cell_upd g3 HC0.out.2.2.2 (fun s => by have := HB.out _ s; omega)⟩
    have HKP := Lib.hid hkp
    clear hkp
    go_region_held3 (fun w' => w'.cell? ⟨fb, 0, none⟩ = some (.int .i64 (room : Nat)) ∧ w'.cell? ⟨fb, 1, none⟩ = some (.slice va D'.length vc) ∧ w'.cell? ⟨xb + 1, 1, none⟩ = some (.string nm) ∧ w'.cell? ⟨xb + 1, 2, none⟩ = some (.string dt)) (first | exact HC0.out | exact hcs5 | exact ⟨cell_upd upd2 hcs5.1 (fun e => by omega), cell_upd upd2 hcs5.2.1 (fun e => by omega), cell_upd upd2 hcs5.2.2.1 (fun e => by omega), cell_upd upd2 hcs5.2.2.2 (fun e => by omega)⟩) (first | (go_at_call 43; refine (HOP.out _ H4.out).mono ?_; rintro e w5 ⟨rfl, S', g1, g2, g3⟩; have hcs5 := HKP.out w5 g3; have HS5 := Lib.hid (HS4.out.next g3 (fun k s => .inl (HB.out k s))); have G1 := Lib.hid g1; have G2 := Lib.hid g2; have G3 := Lib.hid g3; obtain ⟨x0, x1, p0, p1, p2, p3, t0, t1, z0, z1⟩ := HS5.out.cells; clear g1 g2 g3))
    go_wp2_with fail
    try simp only [Exit.inBlock, Exit.then]
    refine bodyPost_ret (results_tct rfl _ _ (xb + 1 + 1) 69 _ (0, 0) _ rfl (cells2 HS5.out.b7) Try.underlying69 rfl (by kernel_rfl)) rfl ?_
    exact dstep_op HXB.out HB.out HU4.out HS4.out.lt HF4.out HAP.out G1.out G2.out G3.out HGR.out _ _
  · go_wp2_with fail
    refine (rsync_any HF.out HM.out.srt (by omega) (fun f hf => Nat.le_trans (May.sizes HM.out (Nat.le_trans htot (by decide)) f hf).2 (by omega)) nm).mono ?_
    rintro e w3 ⟨va, vc, rfl, g1, g2, g3⟩
    have H3 := Lib.hid (H.out.upd g2 (fun _ _ f => f))
    have HS3 := Lib.hid (HS.out.next g2 (fun _ f => f.elim))
    have HF3 := Lib.hid g1
    have HAP := Lib.hid (HRA.out _ _ _ _ HS.out.lt g3)
    have HU3 := Lib.hid (HU.out.trans g2 (fun _ _ f => f))
    have HGR := Lib.hid (grew_sync HM.out nm dt.size)
    clear g1 g2 g3 x0 x1 p0 p1 p2 p3 t0 t1 z0 z1
    have HOP : Hid (∀ w', Has w' S db room n D → Calls Try.prog 44 #[.pointer (some ⟨db, 0, none⟩), .string nm] w' (Op S w' db room (n + 1) (syncD D nm).1 (syncD D nm).2)) := fun w' h => sync_any (h.mono (Nat.le_succ n)) nm hnm
    generalize (syncD D nm).1 = D' at *
    generalize (syncD D nm).2 = cd at *
    go_upto_region 7 with fail
    have ua : Upd (fun _ => False) w3 (w3.alloc (.cells #[.int .i64 (room : Nat), .slice va D'.length vc] 69)) := (Upd.refl _ w3).alloc _
    have q0 := cell_of_heap (heap_alloc (w := w3) (.cells #[.int .i64 (room : Nat), .slice va D'.length vc] 69)) 0
    have q1 := cell_of_heap (heap_alloc (w := w3) (.cells #[.int .i64 (room : Nat), .slice va D'.length vc] 69)) 1
    simp only [List.getElem?_toArray, List.getElem?_cons_zero, List.getElem?_cons_succ] at q0 q1
    have HU4 := Lib.hid ((HU3.out.trans ua (fun _ _ f => f)).drew)
    have H4 := Lib.hid (H3.out.upd (ua.drew) (fun _ _ f => f))
    have HS4 := Lib.hid (HS3.out.next (ua.drew) (fun _ f => f.elim))
    have HF4 := Lib.hid (HF3.out.upd0 (ua.drew))
    clear ua
    generalize w3.alloc (.cells #[.int .i64 (room : Nat), .slice va D'.length vc] 69) = w4 at *
    generalize hfb : w3.heap.size = fb at *
    have hfx : xb + 1 + 1 < fb := by have := HS3.out.lt; omega
    clear hfb
    obtain ⟨x0, x1, p0, p1, p2, p3, t0, t1, z0, z1⟩ := HS4.out.cells
    go_wp2_with fail
    have hc0 : w4.drew.cell? ⟨fb, 0, none⟩ = some (.int .i64 (room : Nat)) ∧ w4.drew.cell? ⟨fb, 1, none⟩ = some (.slice va D'.length vc) ∧ w4.drew.cell? ⟨xb + 1, 1, none⟩ = some (.string nm) ∧ w4.drew.cell? ⟨xb + 1, 2, none⟩ = some (.string dt) := ⟨q0, q1, p1, p2⟩
    have HC0 := Lib.hid hc0
    have hkp : ∀ w5 : World, Upd S w4.drew w5 → w5.cell? ⟨fb, 0, none⟩ = some (.int .i64 (room : Nat)) ∧ w5.cell? ⟨fb, 1, none⟩ = some (.slice va D'.length vc) ∧ w5.cell? ⟨xb + 1, 1, none⟩ = some (.string nm) ∧ w5.cell? ⟨xb + 1, 2, none⟩ = some (.string dt) := fun w5 g3 => ⟨cell_upd g3 HC0.out.1 (fun s => by have := HB.out _ s; omega), cell_upd g3 HC0.out.2.1 (fun s => by have := HB.out _ s; omega), cell_upd g3 HC0.out.2.2.1 (fun s => by have := HB.out _ s; omega), cell_upd g3 HC0.out.2.2.2 (fun s => by have := HB.out _ s; omega)⟩
    have HKP := Lib.hid hkp
    clear hkp
    go_region_held3 (fun w' => w'.cell? ⟨fb, 0, none⟩ = some (.int .i64 (room : Nat)) ∧ w'.cell? ⟨fb, 1, none⟩ = some (.slice va D'.length vc) ∧ w'.cell? ⟨xb + 1, 1, none⟩ = some (.string nm) ∧ w'.cell? ⟨xb + 1, 2, none⟩ = some (.string dt)) (first | exact HC0.out | exact hcs5 | exact ⟨cell_upd upd2 hcs5.1 (fun e => by omega), cell_upd upd2 hcs5.2.1 (fun e => by omega), cell_upd upd2 hcs5.2.2.1 (fun e => by omega), cell_upd upd2 hcs5.2.2.2 (fun e => by omega)⟩) (first | (go_at_call 44; refine (HOP.out _ H4.out).mono ?_; rintro e w5 ⟨rfl, S', g1, g2, g3⟩; have hcs5 := HKP.out w5 g3; have HS5 := Lib.hid (HS4.out.next g3 (fun k s => .inl (HB.out k s))); have G1 := Lib.hid g1; have G2 := Lib.hid g2; have G3 := Lib.hid g3; obtain ⟨x0, x1, p0, p1, p2, p3, t0, t1, z0, z1⟩ := HS5.out.cells; clear g1 g2 g3))
    go_wp2_with fail
    try simp only [Exit.inBlock, Exit.then]
    refine bodyPost_ret (results_tct rfl _ _ (xb + 1 + 1) 69 _ (0, 0) _ rfl (cells2 HS5.out.b7) Try.underlying69 rfl (by kernel_rfl)) rfl ?_
    exact dstep_op HXB.out HB.out HU4.out HS4.out.lt HF4.out HAP.out G1.out G2.out G3.out HGR.out _ _
  · go_wp2_with fail
    refine (read_any H.out nm hnm).mono ?_
    rintro e w3 ⟨rfl, rfl⟩
    go_wp2_with fail
    refine (rread_any HF.out HM.out.srt nm).mono ?_
    rintro e w3 ⟨rfl, g2⟩
    have H3 := Lib.hid (H.out.upd g2 (fun _ _ f => f))
    have HS3 := Lib.hid (HS.out.next g2 (fun _ f => f.elim))
    have HF3 := Lib.hid (HF.out.upd0 g2)
    have HAP := Lib.hid (HRA.out _ _ _ _ HS.out.lt (.inl rfl))
    have HU3 := Lib.hid (HU.out.trans g2 (fun _ _ f => f))
    have HGR := Lib.hid (grew_same D dt.size)
    clear g2 x0 x1 p0 p1 p2 p3 t0 t1 z0 z1
    obtain ⟨x0, x1, p0, p1, p2, p3, t0, t1, z0, z1⟩ := HS3.out.cells
    have hl : ((readD D nm).1.toList == (readD D nm).1.toList) = true := by simp
    generalize (readD D nm).1 = rb at *
    generalize (readD D nm).2 = rc at *
    go_wp2_with fail
    have hc0 : w3.drew.cell? ⟨xb, 0, none⟩ = some (.int .i64 (room : Nat)) ∧ w3.drew.cell? ⟨xb, 1, none⟩ = some (.slice a D.length cap) := ⟨x0, x1⟩
    go_region_held3 (fun w' => w'.cell? ⟨xb, 0, none⟩ = some (.int .i64 (room : Nat)) ∧ w'.cell? ⟨xb, 1, none⟩ = some (.slice a D.length cap)) (first | exact hc0 | exact ⟨cell_upd upd2 hc0.1 (fun e => by omega), cell_upd upd2 hc0.2 (fun e => by omega)⟩) (fail)
    go_wp2_with fail
    try simp only [Exit.inBlock, Exit.then]
    refine bodyPost_ret (results_tct rfl _ _ (xb + 1 + 1) 69 _ (0, 0) _ rfl (cells2 HS3.out.b7) Try.underlying69 rfl (by kernel_rfl)) rfl ?_
    exact (dstep_op HXB.out HB.out HU3.out HS3.out.lt HF3.out ⟨HAP.out.1, HAP.out.2.1, .inl rfl⟩ (H3.out.mono (Nat.le_succ n)) (fun _ h => .inl h) (Upd.refl _ _) HGR.out _ _).drew
  · go_wp2_with fail
    refine (rrename_any HF.out HM.out.srt (by omega) (fun f hf => by have := May.sizes HM.out (Nat.le_trans htot (by decide)) f hf; omega) nm dt).mono ?_
    rintro e w3 ⟨va, vc, rfl, g1, g2, g3⟩
    have H3 := Lib.hid (H.out.upd g2 (fun _ _ f => f))
    have HS3 := Lib.hid (HS.out.next g2 (fun _ f => f.elim))
    have HF3 := Lib.hid g1
    have HAP := Lib.hid (HRA.out _ _ _ _ HS.out.lt g3)
    have HU3 := Lib.hid (HU.out.trans g2 (fun _ _ f => f))
    have HGR := Lib.hid (grew_rename HM.out nm dt dt.size)
    clear g1 g2 g3 x0 x1 p0 p1 p2 p3 t0 t1 z0 z1
    have HOP : Hid (∀ w', Has w' S db room n D → Calls Try.prog 50 #[.pointer (some ⟨db, 0, none⟩), .string nm, .string dt] w' (Op S w' db room (n + 1) (renameD D nm dt).1 (renameD D nm dt).2)) := fun w' h => rename_any h nm dt hnm (by unfold maxLen; omega) (by unfold maxLen; omega)
    generalize (renameD D nm dt).1 = D' at *
    generalize (renameD D nm dt).2 = cd at *
    go_upto_region 14 with fail
    have ua : Upd (fun _ => False) w3 (w3.alloc (.cells #[.int .i64 (room : Nat), .slice va D'.length vc] 69)) := (Upd.refl _ w3).alloc _
    have q0 := cell_of_heap (heap_alloc (w := w3) (.cells #[.int .i64 (room : Nat), .slice va D'.length vc] 69)) 0
    have q1 := cell_of_heap (heap_alloc (w := w3) (.cells #[.int .i64 (room : Nat), .slice va D'.length vc] 69)) 1
    simp only [List.getElem?_toArray, List.getElem?_cons_zero, List.getElem?_cons_succ] at q0 q1
    have HU4 := Lib.hid ((HU3.out.trans ua (fun _ _ f => f)).drew)
    have H4 := Lib.hid (H3.out.upd (ua.drew) (fun _ _ f => f))
    have HS4 := Lib.hid (HS3.out.next (ua.drew) (fun _ f => f.elim))
    have HF4 := Lib.hid (HF3.out.upd0 (ua.drew))
    clear ua
    generalize w3.alloc (.cells #[.int .i64 (room : Nat), .slice va D'.length vc] 69) = w4 at *
    generalize hfb : w3.heap.size = fb at *
    have hfx : xb + 1 + 1 < fb := by have := HS3.out.lt; omega
    clear hfb
    obtain ⟨x0, x1, p0, p1, p2, p3, t0, t1, z0, z1⟩ := HS4.out.cells
    go_wp2_with fail
    have hc0 : w4.drew.cell? ⟨fb, 0, none⟩ = some (.int .i64 (room : Nat)) ∧ w4.drew.cell? ⟨fb, 1, none⟩ = some (.slice va D'.length vc) ∧ w4.drew.cell? ⟨xb + 1, 1, none⟩ = some (.string nm) ∧ w4.drew.cell? ⟨xb + 1, 2, none⟩ = some (.string dt) := ⟨q0, q1, p1, p2⟩
    have HC0 := Lib.hid hc0
    have hkp : ∀ w5 : World, Upd S w4.drew w5 → w5.cell? ⟨fb, 0, none⟩ = some (.int .i64 (room : Nat)) ∧ w5.cell? ⟨fb, 1, none⟩ = some (.slice va D'.length vc) ∧ w5.cell? ⟨xb + 1, 1, none⟩ = some (.string nm) ∧ w5.cell? ⟨xb + 1, 2, none⟩ = some (.string dt) := fun w5 g3 => ⟨cell_upd g3 HC0.out.1 (fun s => by have := HB.out _ s; omega), cell_upd g3 HC0.out.2.1 (fun s => by have := HB.out _ s; omega), cell_upd g3 HC0.out.2.2.1 (fun s => by have := HB.out _ s; omega), cell_upd g3 HC0.out.2.2.2 (fun s => by have := HB.out _ s; omega)⟩
    have HKP := Lib.hid hkp
    clear hkp
    go_region_held3 (fun w' => w'.cell? ⟨fb, 0, none⟩ = some (.int .i64 (room : Nat)) ∧ w'.cell? ⟨fb, 1, none⟩ = some (.slice va D'.length vc) ∧ w'.cell? ⟨xb + 1, 1, none⟩ = some (.string nm) ∧ w'.cell? ⟨xb + 1, 2, none⟩ = some (.string dt)) (first | exact HC0.out | exact hcs5 | exact ⟨cell_upd upd2 hcs5.1 (fun e => by omega), cell_upd upd2 hcs5.2.1 (fun e => by omega), cell_upd upd2 hcs5.2.2.1 (fun e => by omega), cell_upd upd2 hcs5.2.2.2 (fun e => by omega)⟩) (first | (go_at_call 50; refine (HOP.out _ H4.out).mono ?_; rintro e w5 ⟨rfl, S', g1, g2, g3⟩; have hcs5 := HKP.out w5 g3; have HS5 := Lib.hid (HS4.out.next g3 (fun k s => .inl (HB.out k s))); have G1 := Lib.hid g1; have G2 := Lib.hid g2; have G3 := Lib.hid g3; obtain ⟨x0, x1, p0, p1, p2, p3, t0, t1, z0, z1⟩ := HS5.out.cells; clear g1 g2 g3))
    go_wp2_with fail
    try simp only [Exit.inBlock, Exit.then]
    refine bodyPost_ret (results_tct rfl _ _ (xb + 1 + 1) 69 _ (0, 0) _ rfl (cells2 HS5.out.b7) Try.underlying69 rfl (by kernel_rfl)) rfl ?_
    exact dstep_op HXB.out HB.out HU4.out HS4.out.lt HF4.out HAP.out G1.out G2.out G3.out HGR.out _ _
  · go_wp2_with fail
    refine (rremove_any HF.out HM.out.srt (by omega) nm).mono ?_
    rintro e w3 ⟨va, vc, rfl, g1, g2, g3⟩
    have H3 := Lib.hid (H.out.upd g2 (fun _ _ f => f))
    have HS3 := Lib.hid (HS.out.next g2 (fun _ f => f.elim))
    have HF3 := Lib.hid g1
    have HAP := Lib.hid (HRA.out _ _ _ _ HS.out.lt g3)
    have HU3 := Lib.hid (HU.out.trans g2 (fun _ _ f => f))
    have HGR := Lib.hid (grew_remove HM.out nm dt.size)
    clear g1 g2 g3 x0 x1 p0 p1 p2 p3 t0 t1 z0 z1
    have HOP : Hid (∀ w', Has w' S db room n D → Calls Try.prog 58 #[.pointer (some ⟨db, 0, none⟩), .string nm] w' (Op S w' db room (n + 1) (removeD D nm).1 (removeD D nm).2)) := fun w' h => remove_any (h.mono (Nat.le_succ n)) nm hnm
    generalize (removeD D nm).1 = D' at *
    generalize (removeD D nm).2 = cd at *
    go_upto_region 17 with fail
    have ua : Upd (fun _ => False) w3 (w3.alloc (.cells #[.int .i64 (room : Nat), .slice va D'.length vc] 69)) := (Upd.refl _ w3).alloc _
    have q0 := cell_of_heap (heap_alloc (w := w3) (.cells #[.int .i64 (room : Nat), .slice va D'.length vc] 69)) 0
    have q1 := cell_of_heap (heap_alloc (w := w3) (.cells #[.int .i64 (room : Nat), .slice va D'.length vc] 69)) 1
    simp only [List.getElem?_toArray, List.getElem?_cons_zero, List.getElem?_cons_succ] at q0 q1
    have HU4 := Lib.hid ((HU3.out.trans ua (fun _ _ f => f)).drew)
    have H4 := Lib.hid (H3.out.upd (ua.drew) (fun _ _ f => f))
    have HS4 := Lib.hid (HS3.out.next (ua.drew) (fun _ f => f.elim))
    have HF4 := Lib.hid (HF3.out.upd0 (ua.drew))
    clear ua
    generalize w3.alloc (.cells #[.int .i64 (room : Nat), .slice va D'.length vc] 69) = w4 at *
    generalize hfb : w3.heap.size = fb at *
    have hfx : xb + 1 + 1 < fb := by have := HS3.out.lt; omega
    clear hfb
    obtain ⟨x0, x1, p0, p1, p2, p3, t0, t1, z0, z1⟩ := HS4.out.cells
    go_wp2_with fail
    have hc0 : w4.drew.cell? ⟨fb, 0, none⟩ = some (.int .i64 (room : Nat)) ∧ w4.drew.cell? ⟨fb, 1, none⟩ = some (.slice va D'.length vc) ∧ w4.drew.cell? ⟨xb + 1, 1, none⟩ = some (.string nm) ∧ w4.drew.cell? ⟨xb + 1, 2, none⟩ = some (.string dt) := ⟨q0, q1, p1, p2⟩
    have HC0 := Lib.hid hc0
    have hkp : ∀ w5 : World, Upd S w4.drew w5 → w5.cell? ⟨fb, 0, none⟩ = some (.int .i64 (room : Nat)) ∧ w5.cell? ⟨fb, 1, none⟩ = some (.slice va D'.length vc) ∧ w5.cell? ⟨xb + 1, 1, none⟩ = some (.string nm) ∧ w5.cell? ⟨xb + 1, 2, none⟩ = some (.string dt) := fun w5 g3 => ⟨cell_upd g3 HC0.out.1 (fun s => by have := HB.out _ s; omega), cell_upd g3 HC0.out.2.1 (fun s => by have := HB.out _ s; omega), cell_upd g3 HC0.out.2.2.1 (fun s => by have := HB.out _ s; omega), cell_upd g3 HC0.out.2.2.2 (fun s => by have := HB.out _ s; omega)⟩
    have HKP := Lib.hid hkp
    clear hkp
    go_region_held3 (fun w' => w'.cell? ⟨fb, 0, none⟩ = some (.int .i64 (room : Nat)) ∧ w'.cell? ⟨fb, 1, none⟩ = some (.slice va D'.length vc) ∧ w'.cell? ⟨xb + 1, 1, none⟩ = some (.string nm) ∧ w'.cell? ⟨xb + 1, 2, none⟩ = some (.string dt)) (first | exact HC0.out | exact hcs5 | exact ⟨cell_upd upd2 hcs5.1 (fun e => by omega), cell_upd upd2 hcs5.2.1 (fun e => by omega), cell_upd upd2 hcs5.2.2.1 (fun e => by omega), cell_upd upd2 hcs5.2.2.2 (fun e => by omega)⟩) (first | (go_at_call 58; refine (HOP.out _ H4.out).mono ?_; rintro e w5 ⟨rfl, S', g1, g2, g3⟩; have hcs5 := HKP.out w5 g3; have HS5 := Lib.hid (HS4.out.next g3 (fun k s => .inl (HB.out k s))); have G1 := Lib.hid g1; have G2 := Lib.hid g2; have G3 := Lib.hid g3; obtain ⟨x0, x1, p0, p1, p2, p3, t0, t1, z0, z1⟩ := HS5.out.cells; clear g1 g2 g3))
    go_wp2_with fail
    try simp only [Exit.inBlock, Exit.then]
    refine bodyPost_ret (results_tct rfl _ _ (xb + 1 + 1) 69 _ (0, 0) _ rfl (cells2 HS5.out.b7) Try.underlying69 rfl (by kernel_rfl)) rfl ?_
    exact dstep_op HXB.out HB.out HU4.out HS4.out.lt HF4.out HAP.out G1.out G2.out G3.out HGR.out _ _
  · have hi3 := info3d
    obtain ⟨i0, hi, hz0, hz1, hz2⟩ := info_parts hi3
    clear hi3
    go_wp2_with (at_builtin; refine wpList_append_row rfl _ _ 40 rfl wb.heap.size 3 i0 (.int .i64 0) 1 8 Try.underlying40 hi hz0 hz1 hz2 rfl (by decide) _ _ _ rfl (World.ownsRow_nil _ _ _ _) _ _ _ rfl HZ.out ?c2 ?c3 ?c4 ?c5 ?_)
    case c2 => intro u hu; obtain ⟨z, _, rfl⟩ := List.mem_map.1 hu; rfl
    case c3 => have := HKL.out; unfold maxLen; omega
    case c4 => have := HKL.out; omega
    case c5 => exact Nat.le_refl _
    intro v3 w3 hown3 hg3
    have g2 : Upd (fun _ => False) wb w3 := (Upd.refl _ wb).of_grown hg3 (fun j hj _ => by cases hj)
    have hown4 : w3.ownsRow wb.heap.size 3 1 v3 zs.length (zs.map (.int .i64)) := by simpa using hown3
    have hiv : IntsAt .i64 w3 v3 zs := IntsAt.of_own hown4
    obtain ⟨ja, jc, rfl⟩ := hiv.slice
    have HJ := Lib.hid hiv
    have hja : ∀ g o, zs ≠ [] → ja = some ⟨g, o, none⟩ → ¬ S g := fun g o hne e hs => by
      have h1 := (hown4.lt g (by rw [e]; rfl)).1
      have h2 := HB.out g hs
      have h3 := HS.out.lt
      omega
    have HJA := Lib.hid hja
    have H3 := Lib.hid (H.out.upd g2 (fun _ _ f => f))
    have HS3 := Lib.hid (HS.out.next g2 (fun _ f => f.elim))
    have HF3 := Lib.hid (HF.out.upd0 g2)
    have HZ3 := Lib.hid (IntsAt.upd0 HZ.out g2)
    have HU3 := Lib.hid (HU.out.trans g2 (fun _ _ f => f))
    clear g2 hown3 hown4 hg3 hiv hja x0 x1 p0 p1 p2 p3 t0 t1 z0 z1
    go_wp2_with fail
    refine (crash_any H3.out ja jc zs zs.length rfl HJ.out HZW.out HJA.out (by omega) (by omega)).mono ?_
    rintro e w4 ⟨rfl, g1, g3⟩
    have H4 := Lib.hid g1
    have HS4 := Lib.hid (HS3.out.next g3 (fun k s => .inl (HB.out k s)))
    have HF4 := Lib.hid (HF3.out.updS g3 HA.out)
    have HZ4 : Hid (IntsAt .i64 w4 (.slice ka kl kc) zs) := by
      by_cases hne : zs = []
      · have h1 := HZ3.out
        subst hne
        obtain ⟨h1, a', c', h2, h3, h4, h5, h6⟩ := h1
        exact ⟨h1, a', c', h2, h3, h4, h5, fun h => (h rfl).elim⟩
      · exact RowAt.upd_own HZ3.out g3 (fun g hg => HZA.out hne g hg)
    have HU4 := Lib.hid ((HU3.out.mono (T := S) (fun _ _ f => f.elim)).trans g3 (fun _ _ h => h))
    have HGR := Lib.hid (grew_crash HM.out zs dt.size)
    have hxs : xb ≤ w4.heap.size := by have := HS4.out.lt; omega
    clear g1 g3
    have HKE := HKL.out
    subst HKE
    obtain ⟨x0, x1, p0, p1, p2, p3, t0, t1, z0, z1⟩ := HS4.out.cells
    have hc0 : w4.drew.cell? ⟨xb, 0, none⟩ = some (.int .i64 (room : Nat)) ∧ w4.drew.cell? ⟨xb, 1, none⟩ = some (.slice a D.length cap) ∧ w4.drew.cell? ⟨xb + 1, 3, none⟩ = some (.slice ka zs.length kc) := ⟨x0, x1, p3⟩
    have HC0 := Lib.hid hc0
    have HOP : Hid (Calls Try.prog 93 #[.agg #[.int .i64 (room : Nat), .slice a D.length cap], .slice ka zs.length kc] w4.drew (RefPost (room : Nat) (crashD D zs) w4.drew)) := rcrash_any rfl (HF4.out.upd0 (Upd.refl (fun _ => False) w4).drew) (by omega) (May.sizes HM.out (Nat.le_trans htot (by decide))) ka zs.length kc zs rfl (IntsAt.upd0 HZ4.out (Upd.refl (fun _ => False) w4).drew) HZW.out
    go_wp2_with fail
    go_region_held3 (fun w' => w'.cell? ⟨xb, 0, none⟩ = some (.int .i64 (room : Nat)) ∧ w'.cell? ⟨xb, 1, none⟩ = some (.slice a D.length cap) ∧ w'.cell? ⟨xb + 1, 3, none⟩ = some (.slice ka zs.length kc)) (first | exact HC0.out | exact hcs5 | exact ⟨cell_upd upd2 hcs5.1 (fun e => by omega), cell_upd upd2 hcs5.2.1 (fun e => by omega), cell_upd upd2 hcs5.2.2 (fun e => by omega)⟩) (first | (go_at_call 93; refine (HOP.out).mono ?_; rintro e w5 ⟨va, vc, rfl, g1, g2, g3⟩; have hcs5 : w5.cell? ⟨xb, 0, none⟩ = some (.int .i64 (room : Nat)) ∧ w5.cell? ⟨xb, 1, none⟩ = some (.slice a D.length cap) ∧ w5.cell? ⟨xb + 1, 3, none⟩ = some (.slice ka zs.length kc) := ⟨cell_upd g2 HC0.out.1 (fun f => f), cell_upd g2 HC0.out.2.1 (fun f => f), cell_upd g2 HC0.out.2.2 (fun f => f)⟩; have HS5 := Lib.hid ((HS4.out.next (Upd.refl (fun _ => False) w4).drew (fun _ f => f.elim)).next g2 (fun _ f => f.elim)); have G1 := Lib.hid g1; have G2 := Lib.hid g2; have G3 := Lib.hid g3; obtain ⟨x0, x1, p0, p1, p2, p3, t0, t1, z0, z1⟩ := HS5.out.cells; clear g1 g2 g3))
    go_wp2_with fail
    try simp only [Exit.inBlock, Exit.then]
    refine bodyPost_ret (results_tct rfl _ _ (xb + 1 + 1) 69 _ (0, 0) _ rfl (cells2 HS5.out.b7) Try.underlying69 rfl (by kernel_rfl)) rfl ?_
    exact dstep_last HXB.out ((H4.out.upd ((Upd.refl (fun _ => False) w4).drew.trans G2.out (fun _ _ f => f)) (fun _ _ f => f)).mono (Nat.le_succ n)) (fun _ h => .inl h) (fun k hk e => by have := HB.out k hk; omega) ((HU4.out.drew).trans G2.out (fun _ _ f => f.elim)) G1.out (fun _ g hg hs => by have := G3.out g hg; have := HB.out g hs; have : w4.drew.heap.size = w4.heap.size := rfl; omega) (fun _ g hg e => by have := G3.out g hg; have := HS4.out.lt; have : w4.drew.heap.size = w4.heap.size := rfl; omega) (.inr fun g hg => by have := G3.out g hg; have : w4.drew.heap.size = w4.heap.size := rfl; omega) HGR.out _ _
  · go_wp2_with fail
    refine (copy_any H.out (by omega)).mono ?_
    rintro e w3 ⟨d2, S2, rfl, b1, b2, b3⟩
    have H3 := Lib.hid (H.out.upd b3 (fun _ _ f => f))
    have HS3 := Lib.hid (HS.out.next b3 (fun _ f => f.elim))
    have HF3 := Lib.hid (HF.out.upd0 b3)
    have HU3 := Lib.hid (HU.out.trans b3 (fun _ _ f => f))
    have HB1 := Lib.hid b1
    have HB2 := Lib.hid b2
    have hwl := HS.out.lt
    have hs23 : ∀ k, S2 k → k < w3.heap.size := has_below b1
    have HS23 := Lib.hid hs23
    clear b1 b2 b3 hs23 x0 x1 p0 p1 p2 p3 t0 t1 z0 z1
    obtain ⟨x0, x1, p0, p1, p2, p3, t0, t1, z0, z1⟩ := HS3.out.cells
    go_wp2_with fail
    refine (append_any H3.out nm dt hnm (by omega) (by unfold maxLen; omega)).mono ?_
    rintro e w4 ⟨rfl, S1, g1, g2, g3⟩
    have hA4 := grew_append HM.out nm dt
    have h4t : total (appendD room D nm dt).1 ≤ 4611686018427387904 := by have := hA4.2; omega
    have HT4 := Lib.hid h4t
    clear hA4 h4t
    generalize (appendD room D nm dt).1 = D4 at *
    generalize (appendD room D nm dt).2 = c4 at *
    have H4 := Lib.hid g1
    have hs1 : ∀ k, S1 k → k < xb ∨ w3.heap.size ≤ k := fun k hk => (g2 k hk).imp (HB.out k) id
    have hs1' : ∀ k, k < w3.heap.size → S1 k → S k := fun k hk h => (g2 k h).elim id (fun e => by omega)
    have HS4 := Lib.hid (HS3.out.next g3 (fun k s => .inl (HB.out k s)))
    have HC4 := Lib.hid (HB1.out.upd g3 (fun k h2 h1 => by have := HB2.out k h2; have := HB.out k h1; omega))
    have HU4 := Lib.hid ((HU3.out.mono (T := S) (fun _ _ f => f.elim)).trans g3 (fun _ _ h => h))
    have HV4 := Lib.hid g3
    have HS1 := Lib.hid hs1
    have HS1' := Lib.hid hs1'
    clear g1 g2 g3 hs1 hs1' x0 x1 p0 p1 p2 p3 t0 t1 z0 z1
    obtain ⟨x0, x1, p0, p1, p2, p3, t0, t1, z0, z1⟩ := HS4.out.cells
    go_wp2_with fail
    refine (crash_any H4.out none 0 [] 0 rfl (IntsAt.nil _ _) (by simp) (by simp) (by omega) HT4.out).mono ?_
    rintro e w5 ⟨rfl, g1, g3⟩
    generalize crashD D4 [] = D5 at *
    have H5 := Lib.hid g1
    have HS5 := Lib.hid (HS4.out.next g3 (fun k s => (HS1.out k s).imp id (fun e => by have := HS3.out.lt; omega)))
    have HC5 := Lib.hid (HC4.out.upd g3 (fun k h2 h1 => by have := HB2.out k h2; have := HS23.out k h2; have := HS1.out k h1; omega))
    have HV5 := Lib.hid (HV4.out.trans g3 HS1'.out)
    clear g1 g3 x0 x1 p0 p1 p2 p3 t0 t1 z0 z1
    obtain ⟨x0, x1, p0, p1, p2, p3, t0, t1, z0, z1⟩ := HS5.out.cells
    go_wp2_with fail
    refine (remove_any H5.out nm hnm).mono ?_
    rintro e w6 ⟨rfl, S6, g1, g2, g3⟩
    have HS6 := Lib.hid (HS5.out.next g3 (fun k s => (HS1.out k s).imp id (fun e => by have := HS3.out.lt; omega)))
    have HC6 := Lib.hid (HC5.out.upd g3 (fun k h2 h1 => by have := HB2.out k h2; have := HS23.out k h2; have := HS1.out k h1; omega))
    have HV6 := Lib.hid (HV5.out.trans g3 HS1'.out)
    clear g1 g2 g3 x0 x1 p0 p1 p2 p3 t0 t1 z0 z1
    obtain ⟨x0, x1, p0, p1, p2, p3, t0, t1, z0, z1⟩ := HS6.out.cells
    have HGR := Lib.hid (grew_same D dt.size)
    have HAP := Lib.hid (HRA.out _ _ _ _ HS.out.lt (.inl rfl))
    go_wp2_with fail
    have hc0 : w6.drew.cell? ⟨xb, 0, none⟩ = some (.int .i64 (room : Nat)) ∧ w6.drew.cell? ⟨xb, 1, none⟩ = some (.slice a D.length cap) := ⟨x0, x1⟩
    go_region_held3 (fun w' => w'.cell? ⟨xb, 0, none⟩ = some (.int .i64 (room : Nat)) ∧ w'.cell? ⟨xb, 1, none⟩ = some (.slice a D.length cap)) (first | exact hc0 | exact ⟨cell_upd upd2 hc0.1 (fun e => by omega), cell_upd upd2 hc0.2 (fun e => by omega)⟩) (fail)
    go_wp2_with fail
    try simp only [Exit.inBlock, Exit.then]
    refine bodyPost_ret (results_tct rfl _ _ (xb + 1 + 1) 69 _ (0, 0) _ rfl (cells2 HS6.out.b7) Try.underlying69 rfl (by kernel_rfl)) rfl ?_
    exact (dstep_last HXB.out (HC6.out.mono (Nat.le_succ n)) (fun k hk => .inr (by have := HB2.out k hk; omega)) (fun k hk e => by have := HB2.out k hk; omega) ((HU3.out.mono (T := S) (fun _ _ f => f.elim)).trans HV6.out (fun _ _ h => h)) (HF3.out.updS HV6.out HAP.out.1) (fun hne g hg hs => by have := HF.out.lt hne g hg; have := HB2.out g hs; omega) HAP.out.2.1 (.inl rfl) HGR.out _ _).drew
end Go.Proofs.Ytgkegfgdpekehaa
