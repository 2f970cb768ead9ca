/- The walks of the reference's Load and Save. -/
import Derived.Test.YtgkegfgdpekehaaGreatYa
import Derived.Test.YtgkegfgdpekehaaGreatZg
import Derived.Test.YtgkegfgdpekehaaGreatZl
import Derived.Test.YtgkegfgdpekehaaGreatZw
import Derived.Test.YtgkegfgdpekehaaGreatT
namespace Go.Proofs.YtgkegfgdpekehaaGreat
open Go.RowKit Go.Acre Go.Acre.Dk
set_option maxHeartbeats 8000000 in
set_option maxRecDepth 100000 in
theorem rload_any {w : World} {R : Int} {a : Option Addr} {cap : Nat} {D : Files} (h : FilesAt w (.slice a D.length cap) D) (hsrt : Srt En D) (nm : ByteArray) (hf : ∀ f, get En D nm = some f → f.bytes.size ≤ 9223372036854775807) :
    Calls Tryz.prog 9 #[.agg #[.int .i64 R, .slice a D.length cap], .string nm] w (LoadOut (loadR D nm) w) := by
  have hu1 : Upd (fun _ => False) w ((w.alloc (.cells #[.int .i64 R, .slice a D.length cap] 33)).alloc (.cells #[.int .u64 0, .int .u64 0, .slice none 0 0] 28)) := ((Upd.refl _ w).alloc _).alloc _
  have hx0 : ((w.alloc (.cells #[.int .i64 R, .slice a D.length cap] 33)).alloc (.cells #[.int .u64 0, .int .u64 0, .slice none 0 0] 28)).heap[w.heap.size]? = some (.cells #[.int .i64 R, .slice a D.length cap] 33 (0, 0)) := heap_alloc2_old _ _ _
  have hx1 : ((w.alloc (.cells #[.int .i64 R, .slice a D.length cap] 33)).alloc (.cells #[.int .u64 0, .int .u64 0, .slice none 0 0] 28)).heap[w.heap.size + 1]? = some (.cells #[.int .u64 0, .int .u64 0, .slice none 0 0] 28 (0, 0)) := heap_alloc2_new _ _ _
  have hrd := rread_any (R := R) (h.upd0 hu1) hsrt nm
  have HU := Lib.hid hu1
  have HX0 := Lib.hid hx0
  have HX1 := Lib.hid hx1
  cases hg : get En D nm with
  | none =>
    have hr : readD D nm = (⟨#[]⟩, 5) := by unfold readD; rw [hg]
    have e : loadR D nm = (none, 5) := by unfold loadR; rw [hg]
    rw [hr] at hrd
    rw [e]
    have HR := Lib.hid hrd
    clear hrd hr hf hg hu1 hx0 hx1 e h hsrt
    go_enter Tryz.func9, Tryz.ntmps9
    go_upto_region 1 with fail
    generalize (w.alloc (.cells #[.int .i64 R, .slice a D.length cap] 33)).alloc (.cells #[.int .u64 0, .int .u64 0, .slice none 0 0] 28) = wb at *
    generalize hxb : w.heap.size = xb at *
    have r0 := cell_of_heap HX0.out 0
    have r1 := cell_of_heap HX0.out 1
    simp only [List.getElem?_toArray, List.getElem?_cons_zero, List.getElem?_cons_succ] at r0 r1
    go_upto_region 2 with (go_at_call 26; refine HR.out.mono ?_; rintro e w1 ⟨rfl, hu⟩)
    have hx2 := hu.keep HX1.out (fun f => f)
    obtain ⟨p0, p1, p2⟩ := box_cells hx2
    have z0 := frozen_of_heap hx2 0 none
    have z1 := frozen_of_heap hx2 1 none
    have z2 := frozen_of_heap hx2 2 none
    have HX2 := Lib.hid hx2
    have HU2 := Lib.hid (HU.out.trans hu (fun _ _ f => f))
    clear hx2 hu
    go_wp2_with fail
    try simp only [Exit.inBlock, Exit.then]
    refine bodyPost_ret (results_row2 rfl _ _ (xb + 1) 28 _ (0, 0) _ rfl (cells3 HX2.out) Tryz.underlying28 rfl (by kernel_rfl)) rfl ?_
    exact ⟨rfl, HU2.out.trans upd3 (fun i hi e => by omega)⟩
  | some f =>
    have hr : readD D nm = (f.bytes, 0) := by unfold readD; rw [hg]
    rw [hr] at hrd
    have HR := Lib.hid hrd
    have hsz := hf f hg
    have HD : Hid (∀ w', Calls Tryz.prog 27 #[.string f.bytes] w' (DecOut (decodeS f.bytes) w')) := fun w' => rdecode_any f.bytes hsz
    cases hd : decodeS f.bytes with
    | none =>
      have e : loadR D nm = (none, 4) := by unfold loadR; rw [hg]; simp only [hd]
      rw [e]
      rw [hd] at HD
      clear hrd hr hf hg hu1 hx0 hx1 e h hsrt hd hsz
      go_enter Tryz.func9, Tryz.ntmps9
      go_upto_region 1 with fail
      generalize (w.alloc (.cells #[.int .i64 R, .slice a D.length cap] 33)).alloc (.cells #[.int .u64 0, .int .u64 0, .slice none 0 0] 28) = wb at *
      generalize hxb : w.heap.size = xb at *
      have r0 := cell_of_heap HX0.out 0
      have r1 := cell_of_heap HX0.out 1
      simp only [List.getElem?_toArray, List.getElem?_cons_zero, List.getElem?_cons_succ] at r0 r1
      go_upto_region 4 with (go_at_call 26; refine HR.out.mono ?_; rintro e w1 ⟨rfl, hu⟩)
      go_wp2_with fail
      refine (HD.out _).mono ?_
      rintro e w2 ⟨rfl, hu2⟩
      have hx2 := hu2.keep (hu.keep HX1.out (fun f => f)) (fun f => f)
      obtain ⟨p0, p1, p2⟩ := box_cells hx2
      have z0 := frozen_of_heap hx2 0 none
      have z1 := frozen_of_heap hx2 1 none
      have z2 := frozen_of_heap hx2 2 none
      have HX2 := Lib.hid hx2
      have HU2 := Lib.hid ((HU.out.trans hu (fun _ _ f => f)).trans hu2 (fun _ _ f => f))
      clear hx2 hu hu2
      go_wp2_with fail
      try simp only [Exit.inBlock, Exit.then]
      refine bodyPost_ret (results_row2 rfl _ _ (xb + 1) 28 _ (0, 0) _ rfl (cells3 HX2.out) Tryz.underlying28 rfl (by kernel_rfl)) rfl ?_
      exact ⟨rfl, HU2.out.trans upd3 (fun i hi e => by omega)⟩
    | some x =>
      have e : loadR D nm = (some x, 0) := by unfold loadR; rw [hg]; simp only [hd]
      rw [e]
      rw [hd] at HD
      have hws : ((w.alloc (.cells #[.int .i64 R, .slice a D.length cap] 33)).alloc (.cells #[.int .u64 0, .int .u64 0, .slice none 0 0] 28)).heap.size = w.heap.size + 2 := by simp
      have HWS := Lib.hid hws
      clear hrd hr hf hg hu1 hx0 hx1 e h hsrt hd hsz hws
      go_enter Tryz.func9, Tryz.ntmps9
      go_upto_region 1 with fail
      generalize (w.alloc (.cells #[.int .i64 R, .slice a D.length cap] 33)).alloc (.cells #[.int .u64 0, .int .u64 0, .slice none 0 0] 28) = wb at *
      generalize hxb : w.heap.size = xb at *
      have r0 := cell_of_heap HX0.out 0
      have r1 := cell_of_heap HX0.out 1
      simp only [List.getElem?_toArray, List.getElem?_cons_zero, List.getElem?_cons_succ] at r0 r1
      go_upto_region 4 with (go_at_call 26; refine HR.out.mono ?_; rintro e w1 ⟨rfl, hu⟩)
      go_wp2_with fail
      refine (HD.out _).mono ?_
      rintro e w2 ⟨da, dc, rfl, ho, hu2⟩
      have hx2 := hu2.keep (hu.keep HX1.out (fun f => f)) (fun f => f)
      obtain ⟨p0, p1, p2⟩ := box_cells hx2
      have z0 := frozen_of_heap hx2 0 none
      have z1 := frozen_of_heap hx2 1 none
      have z2 := frozen_of_heap hx2 2 none
      have HX2 := Lib.hid hx2
      have HO := Lib.hid ho
      have hsz1 : xb + 2 ≤ w1.heap.size := by have := hu.size; have := HWS.out; omega
      have HU2 := Lib.hid ((HU.out.trans hu (fun _ _ f => f)).trans hu2 (fun _ _ f => f))
      clear hx2 hu hu2 ho
      go_wp2_with fail
      try simp only [Exit.inBlock, Exit.then]
      refine bodyPost_ret (results_row2 rfl _ _ (xb + 1) 28 _ (0, 0) _ rfl (cells3 HX2.out) Tryz.underlying28 rfl (by kernel_rfl)) rfl ?_
      exact ⟨da, dc, rfl, (HO.out.upd (S := fun i => i = xb + 1) upd3 (fun k e => by omega)).base (by omega), HU2.out.trans upd3 (fun i hi e => by omega)⟩
end Go.Proofs.YtgkegfgdpekehaaGreat
/- The walk of the reference's Save. -/
namespace Go.Proofs.YtgkegfgdpekehaaGreat
open Go.RowKit Go.Acre Go.Acre.Dk
theorem save_steps {room : Nat} {D : Files} (h : May room D) {nm sp b : ByteArray} (hnm : nameOk nm = true) (hsp : nameOk sp = true) (hne : nm ≠ sp) :
    ((appendD room (removeD D sp).1 sp b).2 = 0 ∧ saveD room D nm sp b = ((renameD (syncD (appendD room (removeD D sp).1 sp b).1 sp).1 sp nm).1, 0)) ∨ ((appendD room (removeD D sp).1 sp b).2 = 7 ∧ saveD room D nm sp b = ((removeD D sp).1, 7)) := by
  obtain ⟨h1, h2, h3, h4⟩ := remove_plain h hne
  unfold saveD
  generalize (removeD D sp).1 = D1 at *
  by_cases hd : b.size ≤ room - total D1
  · have e1 : appendD room D1 sp b = (put En ⟨sp, b, 0⟩ D1, 0) := by
      unfold appendD
      rw [if_pos hsp, if_pos hd, h2]
    have e2 : syncD (put En ⟨sp, b, 0⟩ D1) sp = (put En ⟨sp, b, b.size⟩ D1, 0) := by
      unfold syncD
      rw [show get En (put En ⟨sp, b, 0⟩ D1) sp = some ⟨sp, b, 0⟩ from get_put En (x := ⟨sp, b, 0⟩) h1.srt]
      simp only
      rw [put_put En (x := ⟨sp, b, b.size⟩) (y := ⟨sp, b, 0⟩) rfl]
    have e3 : renameD (put En ⟨sp, b, b.size⟩ D1) sp nm = (put En ⟨nm, b, b.size⟩ (Dk.drop En sp (put En ⟨sp, b, b.size⟩ D1)), 0) := by
      unfold renameD
      rw [show get En (put En ⟨sp, b, b.size⟩ D1) sp = some ⟨sp, b, b.size⟩ from get_put En (x := ⟨sp, b, b.size⟩) h1.srt]
      simp only
      rw [if_pos hnm]
    rw [e1]
    refine .inl ⟨rfl, ?_⟩
    simp only [if_true]
    rw [e2]
    simp only [if_true]
    rw [e3]
  · have e1 : appendD room D1 sp b = (D1, 7) := by
      unfold appendD
      rw [if_pos hsp, if_neg hd]
    rw [e1]
    have h70 : ¬ (7 : Nat) = 0 := by omega
    simp only [h70, if_false]
    first | exact .inr ⟨rfl, rfl⟩ | exact .inr ⟨trivial, trivial⟩ | simp
/-- where a slice that an operation hands back lies: as it was handed in, or in memory made behind the three boxes -/
def Lies (z : Nat) (vin v : Value) : Prop := v = vin ∨ ∀ g, v.ownBlock = some g → z + 3 ≤ g
theorem Lies.next {z : Nat} {vin v u : Value} (h : Lies z vin v) {w : World} (hz : z + 3 ≤ w.heap.size) (hu : u = v ∨ ∀ g, u.ownBlock = some g → w.heap.size ≤ g) : Lies z vin u := by
  rcases hu with rfl | hu
  · exact h
  · exact .inr (fun g hg => Nat.le_trans hz (hu g hg))
theorem Lies.apart {z : Nat} {w : World} {a0 : Option Addr} {cap0 : Nat} {D0 : Files} (h0 : FilesAt w (.slice a0 D0.length cap0) D0) (hz : w.heap.size = z) {a : Option Addr} {cap : Nat} {D : Files} (h : Lies z (.slice a0 D0.length cap0) (.slice a D.length cap)) {T : Nat → Prop} (hT : ∀ i, T i → z ≤ i ∧ i < z + 3) : Apart T (.slice a D.length cap) D := by
  intro hne g hg ht
  have := hT g ht
  rcases h with e | h
  · rw [e] at hg
    have hl : D.length = D0.length := by
      simp only [Value.slice.injEq] at e
      exact e.2.1
    have hne0 : D0 ≠ [] := fun e0 => by
      rw [e0] at hl
      exact hne (List.eq_nil_of_length_eq_zero hl)
    have := h0.lt hne0 g hg
    omega
  · have := h g hg
    omega
theorem box2 {w : World} {xb : Nat} {a b : Value} (h : w.heap[xb]? = some (.cells #[a, b] 33 (0, 0))) : w.cell? ⟨xb, 0, none⟩ = some a ∧ w.cell? ⟨xb, 1, none⟩ = some b ∧ w.frozen? ⟨xb, 0, none⟩ = false ∧ w.frozen? ⟨xb, 1, none⟩ = false :=
  ⟨cell_of_heap h 0, cell_of_heap h 1, frozen_of_heap h 0 none, frozen_of_heap h 1 none⟩
/-- the three boxes that Save begins with -/
structure B3 (w wb : World) (xb : Nat) (R : Int) (v : Value) (s : Value) : Prop where
  b0 : wb.heap[xb]? = some (.cells #[.int .i64 R, v] 33 (0, 0))
  b1 : ∃ c0 c1 c2, s = .agg #[c0, c1, c2] ∧ wb.heap[xb + 1]? = some (.cells #[c0, c1, c2] 28 (0, 0))
  b2 : ∃ d0 d1, wb.heap[xb + 1 + 1]? = some (.cells #[d0, d1] 33 (0, 0))
  upd : Upd (fun _ => False) w wb
  at0 : w.heap.size = xb
  size : xb + 3 ≤ wb.heap.size
theorem b3_make (w : World) (R : Int) (v c0 c1 c2 : Value) : B3 w (((w.alloc (.cells #[.int .i64 R, v] 33)).alloc (.cells #[c0, c1, c2] 28)).alloc (.cells #[.int .i64 0, .slice none 0 0] 33)) w.heap.size R v (.agg #[c0, c1, c2]) := by
  refine ⟨?_, ⟨c0, c1, c2, rfl, ?_⟩, ⟨.int .i64 0, .slice none 0 0, ?_⟩, (((Upd.refl _ w).alloc _).alloc _).alloc _, rfl, by simp⟩
  · simp only [get_alloc, World.size_alloc]
    rw [if_neg (by omega), if_neg (by omega)]
    simp
  · simp only [get_alloc, World.size_alloc]
    rw [if_neg (by omega)]
    simp
  · simp only [get_alloc, World.size_alloc]
    simp
theorem B3.next {w wb wc : World} {xb : Nat} {R : Int} {v s : Value} (h : B3 w wb xb R v s) (hu : Upd (fun _ => False) wb wc) : B3 w wc xb R v s := by
  obtain ⟨c0, c1, c2, e, h1⟩ := h.b1
  obtain ⟨d0, d1, h2⟩ := h.b2
  exact ⟨hu.keep h.b0 (fun f => f), ⟨c0, c1, c2, e, hu.keep h1 (fun f => f)⟩, ⟨d0, d1, hu.keep h2 (fun f => f)⟩, h.upd.trans hu (fun _ _ f => f), h.at0, Nat.le_trans h.size hu.size⟩
theorem B3.put {w wb : World} {xb : Nat} {R : Int} {v s u : Value} (h : B3 w wb xb R v s) : B3 w ((wb.setCell ⟨xb, 0, none⟩ (.int .i64 R)).setCell ⟨xb, 1, none⟩ u) xb R u s := by
  obtain ⟨c0, c1, c2, e, h1⟩ := h.b1
  obtain ⟨d0, d1, h2⟩ := h.b2
  have hu : Upd (fun i => i = xb) wb ((wb.setCell ⟨xb, 0, none⟩ (.int .i64 R)).setCell ⟨xb, 1, none⟩ u) := upd2
  exact ⟨cells2 h.b0, ⟨c0, c1, c2, e, hu.keep h1 (by omega)⟩, ⟨d0, d1, hu.keep h2 (by omega)⟩, h.upd.trans hu (fun i hi e => by have := h.at0; omega), h.at0, Nat.le_trans h.size hu.size⟩
def RSavePost (R : Nat) (vin : Value) (r : Files × Nat) (w : World) (e : Ending) (w' : World) : Prop := RefPost2 (R : Nat) vin r w e w'
set_option maxHeartbeats 2000000 in
set_option maxRecDepth 100000 in
theorem rsave_bad {w : World} {R : Int} {a : Option Addr} {cap : Nat} {D : Files} (h : FilesAt w (.slice a D.length cap) D) {s : MSt} {sa : Option Addr} {nl ca : Nat} (hn : nl = s.levels.length) (hL : LevsAt w (.slice sa nl ca) s.levels) (hlb : ∀ l ∈ s.levels, l.length ≤ 1000000)
    (nm : ByteArray) (hnm : ¬ (mayS s = true ∧ 1 ≤ nm.size ∧ nm.size ≤ 60)) :
    Calls Tryz.prog 13 #[.agg #[.int .i64 R, .slice a D.length cap], .string nm, .agg #[.int .u64 (s.next : Nat), .int .u64 (s.log : Nat), .slice sa nl ca]] w (RefPost2 R (.slice a D.length cap) (D, 2) w) := by
  have hb3 := b3_make w R (.slice a D.length cap) (.int .u64 (s.next : Nat)) (.int .u64 (s.log : Nat)) (.slice sa nl ca)
  have HM := Lib.hid (rmay_any (s := s) hn (hL.upd0 hb3.upd) hlb)
  have HB := Lib.hid hb3
  have H := Lib.hid h
  have hways : (mayS s = false) ∨ (mayS s = true ∧ nm.size = 0) ∨ (mayS s = true ∧ 1 ≤ nm.size ∧ 60 < nm.size) := by
    cases hm : mayS s with
    | false => exact .inl rfl
    | true =>
      rw [hm] at hnm
      rcases Nat.lt_or_ge nm.size 1 with h1 | h1
      · exact .inr (.inl ⟨rfl, by omega⟩)
      · exact .inr (.inr ⟨rfl, h1, by
          have : ¬ nm.size ≤ 60 := fun h2 => hnm ⟨rfl, h1, h2⟩
          omega⟩)
  have hend : ∀ (w1 : World), B3 w w1 w.heap.size R (.slice a D.length cap) (.agg #[.int .u64 (s.next : Nat), .int .u64 (s.log : Nat), .slice sa nl ca]) → RefPost2 R (.slice a D.length cap) (D, 2) w (.returned (.tuple #[.agg #[.int .i64 R, .slice a D.length cap], .int .i64 2])) ((w1.setCell ⟨w.heap.size + 1 + 1, 0, none⟩ (.int .i64 R)).setCell ⟨w.heap.size + 1 + 1, 1, none⟩ (.slice a D.length cap)) := fun w1 hb => by
    have hu := hb.upd.trans (upd2 (b := w.heap.size + 1 + 1) (v0 := .int .i64 R) (v1 := .slice a D.length cap)) (fun i hi e => by omega)
    exact ⟨a, cap, rfl, h.upd0 hu, hu, .inl rfl⟩
  have HE := Lib.hid hend
  clear h hL hlb hb3 hnm hn hend
  rcases hways with hm | ⟨hm, h0⟩ | ⟨hm, h1, h60⟩
  · rw [hm] at HM
    clear hm
    go_enter Tryz.func13, Tryz.ntmps13
    go_upto_region 1 with fail
    generalize ((w.alloc (.cells #[.int .i64 R, .slice a D.length cap] 33)).alloc (.cells #[.int .u64 (s.next : Nat), .int .u64 (s.log : Nat), .slice sa nl ca] 28)).alloc (.cells #[.int .i64 0, .slice none 0 0] 33) = wb at *
    generalize w.heap.size = xb at *
    obtain ⟨c0, c1, c2, e, hb1⟩ := HB.out.b1
    simp only [Value.agg.injEq] at e
    rw [← e] at hb1
    clear e
    obtain ⟨p0, p1, p2⟩ := box_cells hb1
    go_upto_region 2 with (go_at_call 33; refine HM.out.mono ?_; rintro e w1 ⟨rfl, hu⟩)
    have hb := HB.out.next hu
    obtain ⟨d0, d1, hb2⟩ := hb.b2
    obtain ⟨q0, q1, q2, q3⟩ := box2 hb2
    obtain ⟨r0, r1, _, _⟩ := box2 hb.b0
    have HB2 := Lib.hid hb
    have HBX := Lib.hid hb2
    clear hb hb2 hu hb1 p0 p1 p2
    go_wp2_with fail
    try simp only [Exit.inBlock, Exit.then]
    refine bodyPost_ret (results_row2 rfl _ _ (xb + 1 + 1) 33 _ (0, 0) _ rfl (cells2 HBX.out) Tryz.underlying33 rfl (by kernel_rfl)) rfl ?_
    exact HE.out _ HB2.out
  · rw [hm] at HM
    have hl1 : (nm.size : Int) < 1 := by omega
    clear hm h0
    go_enter Tryz.func13, Tryz.ntmps13
    go_upto_region 1 with fail
    generalize ((w.alloc (.cells #[.int .i64 R, .slice a D.length cap] 33)).alloc (.cells #[.int .u64 (s.next : Nat), .int .u64 (s.log : Nat), .slice sa nl ca] 28)).alloc (.cells #[.int .i64 0, .slice none 0 0] 33) = wb at *
    generalize w.heap.size = xb at *
    obtain ⟨c0, c1, c2, e, hb1⟩ := HB.out.b1
    simp only [Value.agg.injEq] at e
    rw [← e] at hb1
    clear e
    obtain ⟨p0, p1, p2⟩ := box_cells hb1
    go_upto_region 2 with (go_at_call 33; refine HM.out.mono ?_; rintro e w1 ⟨rfl, hu⟩)
    have hb := HB.out.next hu
    obtain ⟨d0, d1, hb2⟩ := hb.b2
    obtain ⟨q0, q1, q2, q3⟩ := box2 hb2
    obtain ⟨r0, r1, _, _⟩ := box2 hb.b0
    have HB2 := Lib.hid hb
    have HBX := Lib.hid hb2
    clear hb hb2 hu hb1 p0 p1 p2
    go_wp2_with fail
    try simp only [Exit.inBlock, Exit.then]
    refine bodyPost_ret (results_row2 rfl _ _ (xb + 1 + 1) 33 _ (0, 0) _ rfl (cells2 HBX.out) Tryz.underlying33 rfl (by kernel_rfl)) rfl ?_
    exact HE.out _ HB2.out
  · rw [hm] at HM
    have hl1 : ¬ (nm.size : Int) < 1 := by omega
    have hl2 : (nm.size : Int) > 60 := by omega
    clear hm h1 h60
    go_enter Tryz.func13, Tryz.ntmps13
    go_upto_region 1 with fail
    generalize ((w.alloc (.cells #[.int .i64 R, .slice a D.length cap] 33)).alloc (.cells #[.int .u64 (s.next : Nat), .int .u64 (s.log : Nat), .slice sa nl ca] 28)).alloc (.cells #[.int .i64 0, .slice none 0 0] 33) = wb at *
    generalize w.heap.size = xb at *
    obtain ⟨c0, c1, c2, e, hb1⟩ := HB.out.b1
    simp only [Value.agg.injEq] at e
    rw [← e] at hb1
    clear e
    obtain ⟨p0, p1, p2⟩ := box_cells hb1
    go_upto_region 2 with (go_at_call 33; refine HM.out.mono ?_; rintro e w1 ⟨rfl, hu⟩)
    have hb := HB.out.next hu
    obtain ⟨d0, d1, hb2⟩ := hb.b2
    obtain ⟨q0, q1, q2, q3⟩ := box2 hb2
    obtain ⟨r0, r1, _, _⟩ := box2 hb.b0
    have HB2 := Lib.hid hb
    have HBX := Lib.hid hb2
    clear hb hb2 hu hb1 p0 p1 p2
    go_wp2_with fail
    try simp only [Exit.inBlock, Exit.then]
    refine bodyPost_ret (results_row2 rfl _ _ (xb + 1 + 1) 33 _ (0, 0) _ rfl (cells2 HBX.out) Tryz.underlying33 rfl (by kernel_rfl)) rfl ?_
    exact HE.out _ HB2.out
end Go.Proofs.YtgkegfgdpekehaaGreat
/- The walk of the reference's Save, where it saves. -/
namespace Go.Proofs.YtgkegfgdpekehaaGreat
open Go.RowKit Go.Acre Go.Acre.Dk
theorem Apart.next {T : Nat → Prop} {a a' : Option Addr} {cap cap' : Nat} {D D' : Files} {sz : Nat} (hA : Apart T (.slice a D.length cap) D) (hT : ∀ i, T i → i < sz)
    (hu : Value.slice a' D'.length cap' = .slice a D.length cap ∨ ∀ g, (Value.slice a' D'.length cap').ownBlock = some g → sz ≤ g) : Apart T (.slice a' D'.length cap') D' := by
  intro hne g hg ht
  rcases hu with e | hu
  · rw [e] at hg
    have hl : D'.length = D.length := by
      simp only [Value.slice.injEq] at e
      exact e.2.1
    have hne0 : D ≠ [] := fun e0 => by
      rw [e0] at hl
      exact hne (List.eq_nil_of_length_eq_zero hl)
    exact hA hne0 g hg ht
  · have := hu g hg
    have := hT g ht
    omega
theorem Apart.mono {T T' : Nat → Prop} {v : Value} {D : Files} (h : Apart T v D) (hT : ∀ i, T' i → T i) : Apart T' v D := fun hne g hg ht => h hne g hg (hT g ht)
def Fr (z : Nat) (vin u : Value) : Prop := u = vin ∨ ∀ g, u.ownBlock = some g → z ≤ g
theorem Fr.next {z sz : Nat} {vin v u : Value} (h : Fr z vin v) (hz : z ≤ sz) (hu : u = v ∨ ∀ g, u.ownBlock = some g → sz ≤ g) : Fr z vin u := by
  rcases hu with rfl | hu
  · exact h
  · exact .inr (fun g hg => Nat.le_trans hz (hu g hg))
theorem nm_ok {nm : ByteArray} (h : 1 ≤ nm.size ∧ nm.size ≤ 60) : nameOk nm = true ∧ nameOk (nm ++ nwN) = true ∧ nm ≠ nm ++ nwN := by
  have hw4 : nwN.size = 4 := rfl
  refine ⟨?_, ?_, fun e => ?_⟩
  · unfold nameOk
    simp
    omega
  · unfold nameOk
    rw [ByteArray.size_append, hw4]
    simp
    omega
  · have h2 := congrArg ByteArray.size e
    rw [ByteArray.size_append, hw4] at h2
    omega
theorem b3_sp {nm : ByteArray} (h : 1 ≤ nm.size ∧ nm.size ≤ 60) : (∀ u : World, (Op.stringOp .add nm (⟨#[46, 110, 101, 119]⟩ : ByteArray)).run Tryz.prog u = .ok (.string (nm ++ nwN)) u) ∧ ¬ (nm.size + (⟨#[46, 110, 101, 119]⟩ : ByteArray).size > 9223372036854775807) := by
  have hw4 : nwN.size = 4 := rfl
  exact ⟨fun u => run_string_add_sum u _ _ (by show nm.size + nwN.size ≤ _; rw [hw4]; omega), by show ¬ (nm.size + nwN.size > _); rw [hw4]; omega⟩
set_option maxHeartbeats 4000000 in
set_option maxRecDepth 100000 in
theorem rsave_good {w : World} {R : Nat} {a : Option Addr} {cap : Nat} {D : Files} (h : FilesAt w (.slice a D.length cap) D) (hmay : May R D) (hR : R ≤ 9223372036854775807) (hnl : D.length ≤ 100000)
    {s : MSt} {sa : Option Addr} {nl ca : Nat} (hn : nl = s.levels.length) (hL : LevsAt w (.slice sa nl ca) s.levels) (hlb : ∀ l ∈ s.levels, l.length ≤ 1000000) (hm : mayS s = true) (nm : ByteArray) (hnm : 1 ≤ nm.size ∧ nm.size ≤ 60) :
    Calls Tryz.prog 13 #[.agg #[.int .i64 (R : Nat), .slice a D.length cap], .string nm, .agg #[.int .u64 (s.next : Nat), .int .u64 (s.log : Nat), .slice sa nl ca]] w (RefPost2 (R : Nat) (.slice a D.length cap) (saveD R D nm (nm ++ nwN) (frameB (stateB s))) w) := by
  have hb3 := b3_make w (R : Nat) (.slice a D.length cap) (.int .u64 (s.next : Nat)) (.int .u64 (s.log : Nat)) (.slice sa nl ca)
  have hM := rmay_any (s := s) hn (hL.upd0 hb3.upd) hlb
  rw [hm] at hM
  have HM := Lib.hid hM
  have HE : Hid (∀ w', Upd (fun _ => False) w w' → Calls Tryz.prog 34 #[.agg #[.int .u64 (s.next : Nat), .int .u64 (s.log : Nat), .slice sa nl ca]] w' (fun e w2 => e = .returned (.tuple #[.string (frameB (stateB s)), .int .i64 0]) ∧ Upd (fun _ => False) w' w2)) := fun w' hu => by
    have h2 := rencode_any (s := s) hn (hL.upd0 hu) hlb
    unfold EncPost at h2
    rw [(enc_yes hm).1, (enc_yes hm).2] at h2
    exact h2
  have hsz := stateB_le hm
  have hfb : (frameB (stateB s)).size ≤ 9223372036854775807 := by rw [frameB_size]; omega
  generalize frameB (stateB s) = fb at *
  obtain ⟨hn1, hn2, hn3⟩ := nm_ok hnm
  obtain ⟨hadd, hnot⟩ := b3_sp hnm
  have hst := save_steps (b := fb) hmay hn1 hn2 hn3
  generalize hsp : nm ++ nwN = sp at *
  have hs1 : ¬ (nm.size : Int) < 1 := by omega
  have hs2 : ¬ (nm.size : Int) > 60 := by omega
  obtain ⟨D1, c1, hD1⟩ : ∃ D1 c1, removeD D sp = (D1, c1) := ⟨_, _, rfl⟩
  have hm1 : May R D1 := by have := may_remove hmay sp; rw [hD1] at this; exact this
  have hl1 : D1.length ≤ D.length + 1 := by have := (grew_remove hmay sp 0).1; rw [hD1] at this; exact this
  rw [hD1] at hst
  obtain ⟨D2, c2, hD2⟩ : ∃ D2 c2, appendD R D1 sp fb = (D2, c2) := ⟨_, _, rfl⟩
  have hm2 : May R D2 := by have := may_append hm1 sp fb; rw [hD2] at this; exact this
  have hl2 : D2.length ≤ D1.length + 1 := by have := (grew_append hm1 sp fb).1; rw [hD2] at this; exact this
  rw [hD2] at hst
  obtain ⟨D3, c3, hD3⟩ : ∃ D3 c3, syncD D2 sp = (D3, c3) := ⟨_, _, rfl⟩
  have hm3 : May R D3 := by have := may_sync hm2 sp; rw [hD3] at this; exact this
  have hl3 : D3.length ≤ D2.length + 1 := by have := (grew_sync hm2 sp 0).1; rw [hD3] at this; exact this
  rw [hD3] at hst
  obtain ⟨D4, c4, hD4⟩ : ∃ D4 c4, renameD D3 sp nm = (D4, c4) := ⟨_, _, rfl⟩
  rw [hD4] at hst
  simp only at hst
  have hA0 : Apart (fun i => w.heap.size ≤ i ∧ i < w.heap.size + 3) (.slice a D.length cap) D := fun hne g hg ht => by have := h.lt hne g hg; omega
  have HRM : Hid (∀ w', Upd (fun _ => False) w w' → Calls Tryz.prog 35 #[.agg #[.int .i64 (R : Nat), .slice a D.length cap], .string sp] w' (RefPost2 (R : Nat) (.slice a D.length cap) (D1, c1) w')) := fun w' hu => by
    have h2 := rremove_any (R := (R : Nat)) (h.upd0 hu) hmay.srt (by omega) sp
    rw [hD1] at h2
    exact h2
  have HAP : Hid (∀ (w' : World) (a1 : Option Addr) (cap1 : Nat), FilesAt w' (.slice a1 D1.length cap1) D1 → Calls Tryz.prog 7 #[.agg #[.int .i64 (R : Nat), .slice a1 D1.length cap1], .string sp, .string fb] w' (RefPost2 (R : Nat) (.slice a1 D1.length cap1) (D2, c2) w')) := fun w' a1 cap1 hf => by
    have h2 := rappend_any hf hm1 hR (by omega) sp fb hfb
    rw [hD2] at h2
    exact h2
  have HSY : Hid (∀ (w' : World) (a1 : Option Addr) (cap1 : Nat), FilesAt w' (.slice a1 D2.length cap1) D2 → Calls Tryz.prog 36 #[.agg #[.int .i64 (R : Nat), .slice a1 D2.length cap1], .string sp] w' (RefPost2 (R : Nat) (.slice a1 D2.length cap1) (D3, c3) w')) := fun w' a1 cap1 hf => by
    have h2 := rsync_any (R := (R : Nat)) hf hm2.srt (by omega) (fun f hf2 => by have := size_le_total hf2; have := hm2.fits; omega) sp
    rw [hD3] at h2
    exact h2
  have HRN : Hid (∀ (w' : World) (a1 : Option Addr) (cap1 : Nat), FilesAt w' (.slice a1 D3.length cap1) D3 → Calls Tryz.prog 37 #[.agg #[.int .i64 (R : Nat), .slice a1 D3.length cap1], .string sp, .string nm] w' (RefPost2 (R : Nat) (.slice a1 D3.length cap1) (D4, c4) w')) := fun w' a1 cap1 hf => by
    have h2 := rrename_any (R := (R : Nat)) hf hm3.srt (by omega) (fun f hf2 => by have := size_le_total hf2; have := hm3.syn f hf2; have := hm3.fits; omega) sp nm
    rw [hD4] at h2
    exact h2
  have HB := Lib.hid hb3
  have HST := Lib.hid hst
  have HA0 := Lib.hid hA0
  clear h hL hlb hb3 hnm hn hM hm hfb hsz hn1 hn2 hn3 hD1 hD2 hD3 hD4 hm1 hm2 hm3 hl1 hl2 hl3 hst hmay hA0 hR hnl
  go_enter Tryz.func13, Tryz.ntmps13
  go_upto_region 1 with fail
  generalize ((w.alloc (.cells #[.int .i64 (R : Nat), .slice a D.length cap] 33)).alloc (.cells #[.int .u64 (s.next : Nat), .int .u64 (s.log : Nat), .slice sa nl ca] 28)).alloc (.cells #[.int .i64 0, .slice none 0 0] 33) = wb at *
  generalize hxb : w.heap.size = xb at *
  obtain ⟨c0, c1', c2', e, hb1⟩ := HB.out.b1
  simp only [Value.agg.injEq] at e
  rw [← e] at hb1
  clear e
  obtain ⟨p0, p1, p2⟩ := box_cells hb1
  have HB1 := Lib.hid hb1
  clear hb1
  go_upto_region 3 with (go_at_call 33; refine HM.out.mono ?_; rintro e w1 ⟨rfl, hu⟩)
  have hb := HB.out.next hu
  have hb1 := hu.keep HB1.out (fun f => f)
  have HB2 := Lib.hid hb
  clear p0 p1 p2 hu hb HB1
  obtain ⟨p0, p1, p2⟩ := box_cells hb1
  clear hb1
  go_upto_region 4 with (go_at_call 34; refine (HE.out _ HB2.out.upd).mono ?_; rintro e w2 ⟨rfl, hu⟩)
  have hb := HB2.out.next hu
  obtain ⟨r0, r1, r2, r3⟩ := box2 hb.b0
  have HB3 := Lib.hid hb
  clear p0 p1 p2 hu hb
  go_upto_region 5 with fail
  have hw : nm ++ (⟨#[46, 110, 101, 119]⟩ : ByteArray) = sp := hsp
  try rw [hw]
  clear hadd hnot hw
  clear hsp
  have hz3 : xb + 3 ≤ w2.heap.size := HB3.out.size
  go_upto_region 6 with (go_at_call 35; refine (HRM.out _ HB3.out.upd).mono ?_; rintro e w3 ⟨a1, cap1, rfl, f3, u3, v3⟩; obtain ⟨y0, y1, y2, y3⟩ := box2 (HB3.out.next u3).b0)
  have hb := (HB3.out.next u3).put (u := .slice a1 D1.length cap1)
  have hA1 : Apart (fun i => xb ≤ i ∧ i < xb + 3) (.slice a1 D1.length cap1) D1 := HA0.out.next (sz := w2.heap.size) (fun i hi => by omega) v3
  have hF1 : Fr xb (.slice a D.length cap) (.slice a1 D1.length cap1) := Fr.next (sz := w2.heap.size) (.inl rfl) (by omega) v3
  have hf3 := f3.updS (upd2 (b := xb) (v0 := .int .i64 (R : Nat)) (v1 := .slice a1 D1.length cap1)) (hA1.mono (fun i e => by omega))
  obtain ⟨r4, r5, r6, r7⟩ := box2 hb.b0
  have HB4 := Lib.hid hb
  have HF3 := Lib.hid hf3
  have HA1 := Lib.hid hA1
  have HFR1 := Lib.hid hF1
  clear y0 y1 y2 y3 hb f3 u3 v3 hA1 hF1 hf3 r0 r1 r2 r3 HA0 HRM
  generalize (w3.setCell ⟨xb, 0, none⟩ (.int .i64 (R : Nat))).setCell ⟨xb, 1, none⟩ (.slice a1 D1.length cap1) = w4 at *
  have hz4 : xb + 3 ≤ w4.heap.size := HB4.out.size
  go_upto_region 7 with (go_at_call 7; refine (HAP.out _ _ _ HF3.out).mono ?_; rintro e w5 ⟨a2, cap2, rfl, f5, u5, v5⟩)
  have hua : Upd (fun _ => False) w5 (w5.alloc (.cells #[.int .i64 (R : Nat), .slice a2 D2.length cap2] 33)) := (Upd.refl _ w5).alloc _
  have hb := (HB4.out.next u5).next hua
  have hta := heap_alloc (w := w5) (.cells #[.int .i64 (R : Nat), .slice a2 D2.length cap2] 33)
  have hA2 : Apart (fun i => xb ≤ i ∧ i < xb + 3) (.slice a2 D2.length cap2) D2 := HA1.out.next (sz := w4.heap.size) (fun i hi => by omega) v5
  have hF2 : Fr xb (.slice a D.length cap) (.slice a2 D2.length cap2) := HFR1.out.next (sz := w4.heap.size) (by omega) v5
  have hT2 : Apart (fun i => (xb ≤ i ∧ i < xb + 3) ∨ i = w5.heap.size) (.slice a2 D2.length cap2) D2 := fun hne g hg ht => by
    rcases ht with ht | ht
    · exact hA2 hne g hg ht
    · have := f5.lt hne g hg
      omega
  have hf6 := f5.upd0 hua
  have hf1 := (HF3.out.upd0 u5).upd0 hua
  have hz5 : xb + 3 ≤ w5.heap.size := Nat.le_trans hz4 u5.size
  have HB6 := Lib.hid hb
  have HTA := Lib.hid hta
  have HT2 := Lib.hid hT2
  have HFR2 := Lib.hid hF2
  have HF6 := Lib.hid hf6
  have HF1 := Lib.hid hf1
  clear hb hta hA2 hF2 hT2 hf6 hf1 f5 u5 v5 hua r4 r5 r6 r7 HAP HF3
  have hs6 : (w5.alloc (.cells #[.int .i64 (R : Nat), .slice a2 D2.length cap2] 33)).heap.size = w5.heap.size + 1 := by simp
  generalize w5.alloc (.cells #[.int .i64 (R : Nat), .slice a2 D2.length cap2] 33) = w6 at *
  generalize w5.heap.size = tb at *
  rcases HST.out with ⟨rfl, hsv⟩ | ⟨rfl, hsv⟩
  · have HSV := Lib.hid hsv
    obtain ⟨t0, t1, t2, t3⟩ := box2 HTA.out
    clear hsv HST
    go_upto_region 10 with (go_at_call 36; refine (HSY.out _ _ _ HF6.out).mono ?_; rintro e w7 ⟨a3, cap3, rfl, f7, u7, v7⟩; obtain ⟨y0, y1, y2, y3⟩ := box2 (u7.keep HTA.out (fun f => f)))
    have hT3 : Apart (fun i => (xb ≤ i ∧ i < xb + 3) ∨ i = tb) (.slice a3 D3.length cap3) D3 := HT2.out.next (sz := w6.heap.size) (fun i hi => by omega) v7
    have hF3 : Fr xb (.slice a D.length cap) (.slice a3 D3.length cap3) := HFR2.out.next (sz := w6.heap.size) (by omega) v7
    have hux : Upd (fun i => i = tb) w7 ((w7.setCell ⟨tb, 0, none⟩ (.int .i64 (R : Nat))).setCell ⟨tb, 1, none⟩ (.slice a3 D3.length cap3)) := upd2
    have hf7 := f7.updS hux (hT3.mono (fun i e => .inr e))
    have hta := cells2 (v0 := .int .i64 (R : Nat)) (v1 := .slice a3 D3.length cap3) (u7.keep HTA.out (fun f => f))
    have hu7 : Upd (fun _ => False) w ((w7.setCell ⟨tb, 0, none⟩ (.int .i64 (R : Nat))).setCell ⟨tb, 1, none⟩ (.slice a3 D3.length cap3)) := (HB6.out.upd.trans u7 (fun _ _ f => f)).trans hux (fun i hi e => by omega)
    obtain ⟨d0, d1, hb2⟩ := HB6.out.b2
    have hb2 := hux.keep (u7.keep hb2 (fun f => f)) (by omega)
    have hs8 : xb + 3 ≤ ((w7.setCell ⟨tb, 0, none⟩ (.int .i64 (R : Nat))).setCell ⟨tb, 1, none⟩ (.slice a3 D3.length cap3)).heap.size ∧ tb < ((w7.setCell ⟨tb, 0, none⟩ (.int .i64 (R : Nat))).setCell ⟨tb, 1, none⟩ (.slice a3 D3.length cap3)).heap.size := by
      have := hux.size
      have := u7.size
      omega
    have HT3 := Lib.hid hT3
    have HFR3 := Lib.hid hF3
    have HF7 := Lib.hid hf7
    have HTA2 := Lib.hid hta
    have HU7 := Lib.hid hu7
    have HBX := Lib.hid hb2
    clear y0 y1 y2 y3 t0 t1 t2 t3 f7 u7 v7 hT3 hF3 hf7 hta hux hu7 hb2 HT2 HFR2 HF6 HSY
    generalize (w7.setCell ⟨tb, 0, none⟩ (.int .i64 (R : Nat))).setCell ⟨tb, 1, none⟩ (.slice a3 D3.length cap3) = w8 at *
    obtain ⟨t0, t1, t2, t3⟩ := box2 HTA2.out
    go_upto_region 11 with (go_at_call 37; refine (HRN.out _ _ _ HF7.out).mono ?_; rintro e w9 ⟨a4, cap4, rfl, f9, u9, v9⟩; obtain ⟨y0, y1, y2, y3⟩ := box2 (u9.keep HTA2.out (fun f => f)))
    have hT4 : Apart (fun i => (xb ≤ i ∧ i < xb + 3) ∨ i = tb) (.slice a4 D4.length cap4) D4 := HT3.out.next (sz := w8.heap.size) (fun i hi => by omega) v9
    have hF4 : Fr xb (.slice a D.length cap) (.slice a4 D4.length cap4) := HFR3.out.next (sz := w8.heap.size) (by omega) v9
    have hux : Upd (fun i => i = tb) w9 ((w9.setCell ⟨tb, 0, none⟩ (.int .i64 (R : Nat))).setCell ⟨tb, 1, none⟩ (.slice a4 D4.length cap4)) := upd2
    have hf9 := f9.updS hux (hT4.mono (fun i e => .inr e))
    have hta := cells2 (v0 := .int .i64 (R : Nat)) (v1 := .slice a4 D4.length cap4) (u9.keep HTA2.out (fun f => f))
    have hu9 : Upd (fun _ => False) w ((w9.setCell ⟨tb, 0, none⟩ (.int .i64 (R : Nat))).setCell ⟨tb, 1, none⟩ (.slice a4 D4.length cap4)) := (HU7.out.trans u9 (fun _ _ f => f)).trans hux (fun i hi e => by omega)
    have hb2 := hux.keep (u9.keep HBX.out (fun f => f)) (by omega)
    have HT4 := Lib.hid hT4
    have HFR4 := Lib.hid hF4
    have HF9 := Lib.hid hf9
    have HTA3 := Lib.hid hta
    have HU9 := Lib.hid hu9
    have HBY := Lib.hid hb2
    clear y0 y1 y2 y3 t0 t1 t2 t3 f9 u9 v9 hT4 hF4 hf9 hta hux hu9 hb2 HT3 HFR3 HF7 HBX
    generalize (w9.setCell ⟨tb, 0, none⟩ (.int .i64 (R : Nat))).setCell ⟨tb, 1, none⟩ (.slice a4 D4.length cap4) = wa at *
    obtain ⟨t0, t1, _, _⟩ := box2 HTA3.out
    obtain ⟨q0, q1, q2, q3⟩ := box2 HBY.out
    go_wp2_with fail
    try simp only [Exit.inBlock, Exit.then]
    refine bodyPost_ret (results_row2 rfl _ _ (xb + 1 + 1) 33 _ (0, 0) _ rfl (cells2 HBY.out) Tryz.underlying33 rfl (by kernel_rfl)) rfl ?_
    rw [HSV.out]
    have hup := HU9.out.trans (upd2 (b := xb + 1 + 1) (v0 := .int .i64 (R : Nat)) (v1 := .slice a4 D4.length cap4)) (fun i hi e => by omega)
    refine ⟨a4, cap4, rfl, HF9.out.updS (upd2 (b := xb + 1 + 1)) (HT4.out.mono (fun i e => .inl (by omega))), hup, ?_⟩
    have := HFR4.out
    unfold Fr at this
    rw [← hxb] at this
    exact this
  · have HSV := Lib.hid hsv
    obtain ⟨r0, r1, _, _⟩ := box2 HB6.out.b0
    obtain ⟨d0, d1, hb2⟩ := HB6.out.b2
    obtain ⟨q0, q1, q2, q3⟩ := box2 hb2
    have HBX := Lib.hid hb2
    clear hsv hb2 HST
    go_wp2_with fail
    try simp only [Exit.inBlock, Exit.then]
    refine bodyPost_ret (results_row2 rfl _ _ (xb + 1 + 1) 33 _ (0, 0) _ rfl (cells2 HBX.out) Tryz.underlying33 rfl (by kernel_rfl)) rfl ?_
    rw [HSV.out]
    have hup := HB6.out.upd.trans (upd2 (b := xb + 1 + 1) (v0 := .int .i64 (R : Nat)) (v1 := .slice a1 D1.length cap1)) (fun i hi e => by omega)
    refine ⟨a1, cap1, rfl, HF1.out.updS (upd2 (b := xb + 1 + 1)) (HA1.out.mono (fun i e => by omega)), hup, ?_⟩
    have := HFR1.out
    unfold Fr at this
    rw [← hxb] at this
    exact this
theorem rsave_any {w : World} {R : Nat} {a : Option Addr} {cap : Nat} {D : Files} (h : FilesAt w (.slice a D.length cap) D) (hmay : May R D) (hR : R ≤ 9223372036854775807) (hnl : D.length ≤ 100000)
    {s : MSt} {sa : Option Addr} {nl ca : Nat} (hn : nl = s.levels.length) (hL : LevsAt w (.slice sa nl ca) s.levels) (hlb : ∀ l ∈ s.levels, l.length ≤ 1000000) (nm : ByteArray) :
    Calls Tryz.prog 13 #[.agg #[.int .i64 (R : Nat), .slice a D.length cap], .string nm, .agg #[.int .u64 (s.next : Nat), .int .u64 (s.log : Nat), .slice sa nl ca]] w (RefPost2 (R : Nat) (.slice a D.length cap) (saveR R D nm s) w) := by
  unfold saveR
  by_cases hc : mayS s = true ∧ 1 ≤ nm.size ∧ nm.size ≤ 60
  · rw [if_pos hc]
    exact rsave_good h hmay hR hnl hn hL hlb hc.1 nm hc.2
  · rw [if_neg hc]
    exact rsave_bad h hn hL hlb nm hc
end Go.Proofs.YtgkegfgdpekehaaGreat
/- ManifestSaves: the disk that came in; the two disks side by side; what is loaded. -/
namespace Go.Proofs.YtgkegfgdpekehaaGreat
open Go.RowKit Go.Acre Go.Acre.Dk
/-- a disk that came in: names and bytes -/
def PairsIn (w : World) (a : Option Addr) (n : Nat) : Prop := n ≤ maxLen ∧ ∀ i, i < n → ∃ g o s t, a = some ⟨g, o, none⟩ ∧ w.cell? ⟨g, o + i * 2, none⟩ = some (.string s) ∧ w.cell? ⟨g, o + i * 2 + 1, none⟩ = some (.string t) ∧ s.size ≤ maxLen ∧ t.size ≤ maxLen
section
open Go.ChangeShapes Go.WideShapes Go.Deep
variable {H : Type} {enc : TypeId × Value → H} {w : World} {held : Bool}
set_option maxRecDepth 100000 in
theorem pairs_open {base fuel len cap : Nat} {a : Option Addr} {x : DataW H × List MemPlace} (h : DataW.trod enc Tryz.prog w base (fun _ => true) held fuel 22 (Value.slice a len cap).cells.toList = some x) : PairsIn w a len := by
  rcases open_slice Tryz.underlying22 h with ⟨hcs, _⟩ | ⟨⟨b, off, spot⟩, l, c, m, n, D, Pl, hcs, hb, hl, hm, hmm, hx, hi⟩
  · simp [Value.cells] at hcs
    obtain ⟨rfl, rfl, rfl⟩ := hcs
    exact ⟨by omega, fun i hi => by omega⟩
  · simp [Value.cells] at hcs
    obtain ⟨rfl, rfl, rfl⟩ := hcs
    have hmc : m = cap := by simpa using hmm
    have hc2 : Tryz.prog.cellsOf 35 = 2 := by kernel_rfl
    have hspot : 0 < len → spot = none := fun h0 => by
      obtain ⟨cs0, hc0, _⟩ := hi 0 (by omega)
      rw [hc2] at hc0
      obtain ⟨_, hcl0, hat0⟩ := World.cells?_some hc0
      have h00 := hat0 0 (by omega)
      match cs0, hcl0 with
      | [v0, v1], _ =>
        simp only [List.getElem?_cons_zero] at h00
        simpa [Addr.add] using World.cell?_spot h00
    refine ⟨by omega, fun i hil => ?_⟩
    have hs := hspot (by omega)
    subst hs
    obtain ⟨cs', hc, ht⟩ := hi i (by omega)
    rw [hc2] at hc
    obtain ⟨_, hcl, hat⟩ := World.cells?_some hc
    have h0 := hat 0 (by omega)
    have h1 := hat 1 (by omega)
    match cs', hcl with
    | [v0, v1], _ =>
      simp only [List.getElem?_cons_zero, List.getElem?_cons_succ] at h0 h1
      obtain ⟨y0, y1, k, _, t0, t1⟩ := Acre.trod_array2 Tryz.underlying35 (by kernel_rfl) ht
      obtain ⟨s, e0, _, z0⟩ := DataW.trod_string Tryz.underlying9 t0
      obtain ⟨t, e1, _, z1⟩ := DataW.trod_string Tryz.underlying9 t1
      simp only [List.cons.injEq, and_true] at e0 e1
      subst e0 e1
      rw [none_add, none_add, Nat.add_zero] at h0
      rw [none_add, none_add] at h1
      exact ⟨b, off, s, t, rfl, h0, h1, z0, z1⟩
set_option maxRecDepth 100000 in
theorem disk_open {base : Nat} {v : Value} {fuel : Nat} {x : DataW H × List MemPlace} (hv : ∃ cs, v = .agg cs ∧ cs.size = Tryz.prog.cellsOf 24) (h : DataW.trod enc Tryz.prog w base (fun _ => true) held fuel 24 v.cells.toList = some x) :
    ∃ (R : Int) (a : Option Addr) (n c : Nat), v = .agg #[.int .i64 R, .slice a n c] ∧ (Lit.int .i64 R).wf = true ∧ PairsIn w a n := by
  obtain ⟨cs, rfl, hcs⟩ := hv
  have hc3 : Tryz.prog.cellsOf 24 = 2 := by kernel_rfl
  rw [hc3] at hcs
  obtain ⟨y0, y1, n, rfl, hl, t0, t1⟩ := trod_struct2 Tryz.underlying24 h
  obtain ⟨c0, c1, rfl⟩ : ∃ c0 c1, cs = #[c0, c1] := by
    obtain ⟨l⟩ := cs
    match l, hcs with
    | [a, b], _ => exact ⟨a, b, rfl⟩
  have t0' : DataW.trod enc Tryz.prog w base (fun _ => true) held n 3 [c0] = some y0 := t0
  have t1' : DataW.trod enc Tryz.prog w base (fun _ => true) held n 22 [c1] = some y1 := t1
  obtain ⟨k0, e0, _, hk0⟩ := DataW.trod_int (k := .i64) Tryz.underlying3 t0'
  obtain ⟨la, ll, lc, rfl⟩ : ∃ ka kl kc, c1 = .slice ka kl kc := by
    rcases open_slice Tryz.underlying22 t1' with ⟨e3, _⟩ | ⟨_, _, _, _, _, _, _, e3, _⟩ <;> (simp only [List.cons.injEq, and_true] at e3; exact ⟨_, _, _, e3⟩)
  simp only [List.cons.injEq, and_true] at e0
  subst e0
  exact ⟨k0, la, ll, lc, rfl, hk0, pairs_open (show DataW.trod enc Tryz.prog w base (fun _ => true) held n 22 (Value.slice la ll lc).cells.toList = some y1 from t1')⟩
end
/-- the disk, and the document's disk in its box -/
structure QS (w0 w : World) (S : Nat → Prop) (db qb R n : Nat) (D Dq : Files) (a : Option Addr) (cap : Nat) : Prop where
  has : Has w S db R n D
  low : ∀ j, S j → w0.heap.size ≤ j
  upd : Upd (fun _ => False) w0 w
  files : FilesAt w (.slice a Dq.length cap) Dq
  apart : Apart (fun j => S j ∨ j = qb) (.slice a Dq.length cap) Dq
  box : w.heap[qb]? = some (.cells #[.int .i64 (R : Nat), .slice a Dq.length cap] 33 (0, 0))
  nS : ¬ S qb
  qlow : w0.heap.size ≤ qb
section
variable {w0 w w' : World} {S S' : Nat → Prop} {db qb R n n' : Nat} {D D' Dq D2 : Files} {a a' : Option Addr} {cap cap' : Nat}
theorem QS.next (h : QS w0 w S db qb R n D Dq a cap) (hu : Upd (fun _ => False) w w') : QS w0 w' S db qb R n D Dq a cap :=
  ⟨h.has.upd hu (fun _ _ f => f), h.low, h.upd.trans hu (fun _ _ f => f), h.files.upd0 hu, h.apart, hu.keep h.box (fun f => f), h.nS, h.qlow⟩
theorem QS.prog (h : QS w0 w S db qb R n D Dq a cap) (h1 : Has w' S' db R n' D') (hc : Chain S w S' w') : QS w0 w' S' db qb R n' D' Dq a cap := by
  have hq := lt_of_heap h.box
  refine ⟨h1, fun j hj => (hc.new j hj).elim (h.low j) (fun e => Nat.le_trans h.upd.size e), h.upd.trans hc.upd (fun i hi s => by have := h.low i s; omega), h.files.updS hc.upd (h.apart.mono (fun i e => .inl e)), fun hne g hg ht => ?_, hc.upd.keep h.box h.nS, fun s => (hc.new _ s).elim h.nS (fun e => by omega), h.qlow⟩
  rcases ht with ht | ht
  · rcases hc.new g ht with s | e
    · exact h.apart hne g hg (.inl s)
    · have := h.files.lt hne g hg
      omega
  · exact h.apart hne g hg (.inr ht)
theorem QS.ref (h : QS w0 w S db qb R n D Dq a cap) (hf : FilesAt w' (.slice a' D2.length cap') D2) (hu : Upd (fun _ => False) w w') (hv : Value.slice a' D2.length cap' = .slice a Dq.length cap ∨ ∀ g, (Value.slice a' D2.length cap').ownBlock = some g → w.heap.size ≤ g) :
    QS w0 ((w'.setCell ⟨qb, 0, none⟩ (.int .i64 (R : Nat))).setCell ⟨qb, 1, none⟩ (.slice a' D2.length cap')) S db qb R n D D2 a' cap' := by
  have hq := lt_of_heap h.box
  have hb := has_below h.has
  have hA : Apart (fun j => S j ∨ j = qb) (.slice a' D2.length cap') D2 := h.apart.next (sz := w.heap.size) (fun i hi => by rcases hi with hi | hi; exact hb i hi; omega) hv
  have h2 := h.next hu
  have hx : Upd (fun j => j = qb) w' ((w'.setCell ⟨qb, 0, none⟩ (.int .i64 (R : Nat))).setCell ⟨qb, 1, none⟩ (.slice a' D2.length cap')) := upd2
  exact ⟨h2.has.upd hx (fun k hk e => h.nS (e ▸ hk)), h.low, h2.upd.trans hx (fun i hi e => by have := h.qlow; omega), hf.updS hx (hA.mono (fun i e => .inr e)), hA, cells2 h2.box, h.nS, h.qlow⟩
theorem QS.cells (h : QS w0 w S db qb R n D Dq a cap) : w.cell? ⟨qb, 0, none⟩ = some (.int .i64 (R : Nat)) ∧ w.cell? ⟨qb, 1, none⟩ = some (.slice a Dq.length cap) ∧ w.frozen? ⟨qb, 0, none⟩ = false ∧ w.frozen? ⟨qb, 1, none⟩ = false := box2 h.box
end
/-- what is loaded, as numbers and levels -/
def loadX : Option MSt × Nat → Nat × Nat × List (List PF) × Nat
  | (none, c) => (0, 0, [], c)
  | (some x, c) => (x.next, x.log, x.levels, c)
theorem load_x {r : Option MSt × Nat} {x y c : Nat} {ls : List (List PF)} (hr : loadX r = (x, y, ls, c)) {w : World} {e : Ending} {w' : World} (h : LoadOut r w e w') :
    ∃ a cap, e = .returned (.tuple #[.agg #[.int .u64 (x : Nat), .int .u64 (y : Nat), .slice a ls.length cap], .int .i64 (c : Nat)]) ∧ LevsAt w' (.slice a ls.length cap) ls ∧ Upd (fun _ => False) w w' := by
  obtain ⟨o, c0⟩ := r
  cases o with
  | none =>
    unfold loadX at hr
    simp only [Prod.mk.injEq] at hr
    obtain ⟨rfl, rfl, rfl, rfl⟩ := hr
    exact ⟨none, 0, h.1, LevsAt.nil _, h.2⟩
  | some s =>
    unfold loadX at hr
    simp only [Prod.mk.injEq] at hr
    obtain ⟨rfl, rfl, rfl, rfl⟩ := hr
    obtain ⟨a, cap, h1, h2, h3⟩ := h
    exact ⟨a, cap, h1, h2.levs, h3⟩
theorem disk_size {w : World} {S : Nat → Prop} {db R n : Nat} {D : Files} (h : Has w S db R n D) (hR : R ≤ 9223372036854775807) {nm : ByteArray} : ∀ f, get En D nm = some f → f.bytes.size ≤ 9223372036854775807 := fun f hf => by
  have h1 := size_le_total (get_some En hf).1
  have := h.may.fits
  omega
theorem save_len {R : Nat} {D : Files} (h : May R D) (nm : ByteArray) (s : MSt) : (saveR R D nm s).1.length ≤ D.length + 4 := by
  unfold saveR
  split
  · unfold saveD
    have m1 := may_remove h (nm ++ nwN)
    have g1 := (grew_remove h (nm ++ nwN) 0).1
    generalize (removeD D (nm ++ nwN)).1 = D1 at *
    have m2 := may_append m1 (nm ++ nwN) (frameB (stateB s))
    have g2 := (grew_append m1 (nm ++ nwN) (frameB (stateB s))).1
    split
    · generalize (appendD R D1 (nm ++ nwN) (frameB (stateB s))).1 = D2 at *
      have m3 := may_sync m2 (nm ++ nwN)
      have g3 := (grew_sync m2 (nm ++ nwN) 0).1
      split
      · generalize (syncD D2 (nm ++ nwN)).1 = D3 at *
        have g4 := (grew_rename m3 (nm ++ nwN) nm 0).1
        omega
      · omega
    · omega
  · show D.length ≤ _
    omega
end Go.Proofs.YtgkegfgdpekehaaGreat
/- The walk of ManifestSaves. -/
namespace Go.Proofs.YtgkegfgdpekehaaGreat
open Go.RowKit Go.Acre Go.Acre.Dk
/-- both disks made, the document's laid into its box: in whatever order -/
structure NV (w0 : World) (xb : Nat) (r : Int) (R : Nat) (L : Nat → Bool) (vs : Nat → Value) (w : World) : Prop where
  upd : Upd (fun _ => False) w0 w
  l0 : L 0 = true → vs 0 = .pointer (some ⟨xb, 0, none⟩)
  l1 : L 1 = true → vs 1 = .int .i64 r
  l3 : L 3 = true → vs 3 = .pointer (some ⟨xb, 0, none⟩)
  l4 : L 4 = true → vs 4 = .int .i64 r
  l5 : L 5 = true → vs 5 = .agg #[.int .i64 (R : Nat), .slice none 0 0]
  l2 : L 2 = true → ∃ db S, vs 2 = .pointer (some ⟨db, 0, none⟩) ∧ Has w S db R 0 [] ∧ (∀ j, S j → w0.heap.size ≤ j) ∧ (L 6 = true → ∀ qb, vs 6 = .pointer (some ⟨qb, 0, none⟩) → ¬ S qb)
  l6 : L 6 = true → ∃ qb c0 c1, vs 6 = .pointer (some ⟨qb, 0, none⟩) ∧ w0.heap.size ≤ qb ∧ w.heap[qb]? = some (.cells #[c0, c1] 33 (0, 0)) ∧ (L 8 = true → c0 = .int .i64 (R : Nat) ∧ c1 = .slice none 0 0)
  l7 : L 7 = true → vs 7 = vs 2 ∧ L 2 = true
  l8 : L 8 = true → L 6 = true
section
variable {w0 w w' : World} {xb : Nat} {r : Int} {R : Nat} {L : Nat → Bool} {vs : Nat → Value}
theorem NV.keep (h : NV w0 xb r R L vs w) (hu : Upd (fun _ => False) w w') : NV w0 xb r R L vs w' where
  upd := h.upd.trans hu (fun _ _ f => f)
  l0 := h.l0
  l1 := h.l1
  l3 := h.l3
  l4 := h.l4
  l5 := h.l5
  l2 := fun e => by obtain ⟨db, S, h1, h2, h3, h4⟩ := h.l2 e; exact ⟨db, S, h1, h2.upd hu (fun _ _ f => f), h3, h4⟩
  l6 := fun e => by obtain ⟨qb, c0, c1, h1, h2, h3, h4⟩ := h.l6 e; exact ⟨qb, c0, c1, h1, h2, hu.keep h3 (fun f => f), h4⟩
  l7 := h.l7
  l8 := h.l8
theorem NV.s0 (h : NV w0 xb r R L vs w) : NV w0 xb r R (setF L 0 true) (setF vs 0 (.pointer (some ⟨xb, 0, none⟩))) w := ⟨h.upd, fun _ => rfl, h.l1, h.l3, h.l4, h.l5, h.l2, h.l6, h.l7, h.l8⟩
theorem NV.s1 (h : NV w0 xb r R L vs w) : NV w0 xb r R (setF L 1 true) (setF vs 1 (.int .i64 r)) w := ⟨h.upd, h.l0, fun _ => rfl, h.l3, h.l4, h.l5, h.l2, h.l6, h.l7, h.l8⟩
theorem NV.s3 (h : NV w0 xb r R L vs w) : NV w0 xb r R (setF L 3 true) (setF vs 3 (.pointer (some ⟨xb, 0, none⟩))) w := ⟨h.upd, h.l0, h.l1, fun _ => rfl, h.l4, h.l5, h.l2, h.l6, h.l7, h.l8⟩
theorem NV.s4 (h : NV w0 xb r R L vs w) : NV w0 xb r R (setF L 4 true) (setF vs 4 (.int .i64 r)) w := ⟨h.upd, h.l0, h.l1, h.l3, fun _ => rfl, h.l5, h.l2, h.l6, h.l7, h.l8⟩
theorem NV.s5 (h : NV w0 xb r R L vs w) : NV w0 xb r R (setF L 5 true) (setF vs 5 (.agg #[.int .i64 (R : Nat), .slice none 0 0])) w := ⟨h.upd, h.l0, h.l1, h.l3, h.l4, fun _ => rfl, h.l2, h.l6, h.l7, h.l8⟩
theorem NV.no7 (h : NV w0 xb r R L vs w) (hL : L 2 = false) : L 7 = false := by
  cases h7 : L 7 with
  | false => rfl
  | true => have := (h.l7 h7).2; rw [hL] at this; cases this
theorem NV.s2 (h : NV w0 xb r R L vs w) (hL : L 2 = false) {db : Nat} {S : Nat → Prop} (h1 : Has w' S db R 0 []) (h2 : ∀ j, S j → w.heap.size ≤ j) (hu : Upd (fun _ => False) w w') : NV w0 xb r R (setF L 2 true) (setF vs 2 (.pointer (some ⟨db, 0, none⟩))) w' := by
  have k := h.keep hu
  have h7 := h.no7 hL
  refine ⟨k.upd, k.l0, k.l1, k.l3, k.l4, k.l5, fun _ => ⟨db, S, rfl, h1, fun j hj => Nat.le_trans h.upd.size (h2 j hj), fun e6 qb hq s => ?_⟩, k.l6, fun e => ?_, k.l8⟩
  · obtain ⟨qb', c0, c1, g1, _, g3, _⟩ := h.l6 e6
    have hq2 : vs 6 = .pointer (some ⟨qb, 0, none⟩) := hq
    rw [g1] at hq2
    simp only [Value.pointer.injEq, Option.some.injEq, Addr.mk.injEq, and_true] at hq2
    have := lt_of_heap g3
    have := h2 qb s
    omega
  · rw [show setF L 2 true 7 = L 7 from rfl, h7] at e; cases e
theorem NV.s6 (h : NV w0 xb r R L vs w) (hL : L 6 = false) (c0 c1 : Value) : NV w0 xb r R (setF L 6 true) (setF vs 6 (.pointer (some ⟨w.heap.size, 0, none⟩))) (w.alloc (.cells #[c0, c1] 33)) := by
  have hu : Upd (fun _ => False) w (w.alloc (.cells #[c0, c1] 33)) := (Upd.refl _ w).alloc _
  have k := h.keep hu
  have h8 : L 8 = false := by
    cases h8 : L 8 with
    | false => rfl
    | true => have := h.l8 h8; rw [hL] at this; cases this
  refine ⟨k.upd, k.l0, k.l1, k.l3, k.l4, k.l5, fun e => ?_, fun _ => ⟨_, c0, c1, rfl, h.upd.size, heap_alloc _, fun e => ?_⟩, k.l7, fun e => ?_⟩
  · obtain ⟨db, S, g1, g2, g3, g4⟩ := h.l2 e
    refine ⟨db, S, g1, g2.upd hu (fun _ _ f => f), g3, fun _ qb hq s => ?_⟩
    have hq2 : Value.pointer (some ⟨w.heap.size, 0, none⟩) = .pointer (some ⟨qb, 0, none⟩) := hq
    simp only [Value.pointer.injEq, Option.some.injEq, Addr.mk.injEq, and_true] at hq2
    have := has_below g2 qb s
    omega
  · rw [show setF L 6 true 8 = L 8 from rfl, h8] at e; cases e
  · rfl
theorem NV.s7 (h : NV w0 xb r R L vs w) (e2 : L 2 = true) : NV w0 xb r R (setF L 7 true) (setF vs 7 (vs 2)) w := ⟨h.upd, h.l0, h.l1, h.l3, h.l4, h.l5, h.l2, h.l6, fun _ => ⟨rfl, e2⟩, h.l8⟩
theorem NV.s8 (h : NV w0 xb r R L vs w) (e6 : L 6 = true) {qb : Nat} {x : Value} (hq : vs 6 = .pointer (some ⟨qb, 0, none⟩)) :
    NV w0 xb r R (setF L 8 true) (setF vs 8 x) ((w.setCell ⟨qb, 0, none⟩ (.int .i64 (R : Nat))).setCell ⟨qb, 1, none⟩ (.slice none 0 0)) := by
  obtain ⟨qb', c0, c1, g1, g2, g3, _⟩ := h.l6 e6
  rw [hq] at g1
  simp only [Value.pointer.injEq, Option.some.injEq, Addr.mk.injEq, and_true] at g1
  subst g1
  have hu : Upd (fun i => i = qb) w ((w.setCell ⟨qb, 0, none⟩ (.int .i64 (R : Nat))).setCell ⟨qb, 1, none⟩ (.slice none 0 0)) := upd2
  refine ⟨h.upd.trans hu (fun i hi e => by omega), h.l0, h.l1, h.l3, h.l4, h.l5, fun e => ?_, fun _ => ⟨qb, _, _, hq, g2, cells2 g3, fun _ => ⟨rfl, rfl⟩⟩, h.l7, fun _ => e6⟩
  obtain ⟨db, S, k1, k2, k3, k4⟩ := h.l2 e
  exact ⟨db, S, k1, k2.upd hu (fun k hk e => k4 e6 qb hq (e ▸ hk)), k3, k4⟩
end
end Go.Proofs.YtgkegfgdpekehaaGreat
/- The walk of ManifestSaves. -/
namespace Go.Proofs.YtgkegfgdpekehaaGreat
open Go.RowKit Go.Acre Go.Acre.Dk
theorem box24 {w : World} {xb : Nat} {a b : Value} (h : w.heap[xb]? = some (.cells #[a, b] 24 (0, 0))) : w.cell? ⟨xb, 0, none⟩ = some a ∧ w.cell? ⟨xb, 1, none⟩ = some b ∧ w.frozen? ⟨xb, 0, none⟩ = false ∧ w.frozen? ⟨xb, 1, none⟩ = false :=
  ⟨cell_of_heap h 0, cell_of_heap h 1, frozen_of_heap h 0 none, frozen_of_heap h 1 none⟩
theorem short_ok {ls : List (List PF)} (h : ∀ l ∈ ls, ∀ f ∈ l, PFok f) {nx lg : Nat} : ∀ y ∈ flat (PS'.mk nx lg (shortL ls)).levels, y.2.id < 18446744073709551616 := by
  intro y hy
  obtain ⟨l, hl, hf⟩ := mem_flat_of hy
  unfold shortL at hl
  obtain ⟨l', hl', rfl⟩ := List.mem_map.1 hl
  exact h l' (List.mem_of_mem_take hl') _ (List.mem_of_mem_take hf)
theorem list_nil (D : Files) : listD D ⟨#[]⟩ = D.map (·.name) := by
  unfold listD
  rw [List.filter_eq_self]
  intro x _
  simp
theorem synced_of (D : Files) (s : ByteArray) : syncedD D s = (ofD D s).1.synced := by
  unfold syncedD ofD
  cases get En D s <;> rfl
theorem read_of {room : Nat} {D : Files} (h : May room D) {j : Nat} (hj : j < D.length) : readD D D[j].name = (D[j].bytes, 0) ∧ syncedD D D[j].name = D[j].synced := by
  have e : get En D D[j].name = some D[j] := get_of En h.srt (List.getElem_mem hj)
  constructor
  · unfold readD
    rw [e]
  · unfold syncedD
    rw [e]
theorem short_len (ls : List (List PF)) : ∀ l ∈ shortL ls, l.length ≤ 1000000 := by
  intro l hl
  unfold shortL at hl
  obtain ⟨l', _, rfl⟩ := List.mem_map.1 hl
  rw [List.length_take]
  omega
set_option maxHeartbeats 4000000 in
set_option maxRecDepth 100000 in
theorem saves_any {w : World} {r : Int} {xa : Option Addr} {xn xc : Nat} {nx lg : Nat} {sa : Option Addr} {sn sc : Nat} {ls : List (List PF)} (nm0 : ByteArray) (hr : (Lit.int .i64 r).wf = true) (hp : PairsIn w xa xn) (hf : FilesIn w nx lg sa sn sc ls) (hb : nm0.size ≤ 140737488351232) :
    Calls Tryz.prog 3 #[.agg #[.int .i64 r, .slice xa xn xc], .string nm0, .agg #[.int .u64 (nx : Nat), .int .u64 (lg : Nat), .slice sa sn sc]] w (Fresh true w) := by
  have hRb := int_of_wf hr
  have hu1 : Upd (fun _ => False) w ((w.alloc (.cells #[.int .i64 r, .slice xa xn xc] 24)).alloc (.cells #[.int .u64 (nx : Nat), .int .u64 (lg : Nat), .slice sa sn sc] 28)) := ((Upd.refl _ w).alloc _).alloc _
  have hx0 : ((w.alloc (.cells #[.int .i64 r, .slice xa xn xc] 24)).alloc (.cells #[.int .u64 (nx : Nat), .int .u64 (lg : Nat), .slice sa sn sc] 28)).heap[w.heap.size]? = some (.cells #[.int .i64 r, .slice xa xn xc] 24 (0, 0)) := heap_alloc2_old _ _ _
  have hx1 : ((w.alloc (.cells #[.int .i64 r, .slice xa xn xc] 24)).alloc (.cells #[.int .u64 (nx : Nat), .int .u64 (lg : Nat), .slice sa sn sc] 28)).heap[w.heap.size + 1]? = some (.cells #[.int .u64 (nx : Nat), .int .u64 (lg : Nat), .slice sa sn sc] 28 (0, 0)) := heap_alloc2_new _ _ _
  have HU := Lib.hid hu1
  have HX0 := Lib.hid hx0
  have HX1 := Lib.hid hx1
  have HP := Lib.hid hp
  have HF := Lib.hid hf
  have HBN := Lib.hid hb
  have HR := Lib.hid hRb
  obtain ⟨R, hRr⟩ : ∃ R : Nat, R = r.toNat := ⟨_, rfl⟩
  have hR63 : R ≤ 9223372036854775807 := by omega
  have HNW : Hid (∀ w', Calls Tryz.prog 4 #[.int .i64 r] w' (NewPost R w')) := fun w' => by rw [hRr]; exact new_any r w' hRb
  have HRW : Hid (∀ w', Calls Tryz.prog 5 #[.int .i64 r] w' (fun e w2 => e = .returned (.agg #[.int .i64 (R : Nat), .slice none 0 0]) ∧ Upd (fun _ => False) w' w2)) := fun w' => by rw [hRr]; exact rnew_any r w' hRb
  clear hr hp hf hb hu1 hx0 hx1 hRb hRr HR
  go_enter Tryz.func3, Tryz.ntmps3
  go_upto_region 1 with fail
  generalize (w.alloc (.cells #[.int .i64 r, .slice xa xn xc] 24)).alloc (.cells #[.int .u64 (nx : Nat), .int .u64 (lg : Nat), .slice sa sn sc] 28) = wb at *
  generalize hxb : w.heap.size = xb at *
  refine wp_region_fill (by kernel_rfl) (early_of (by kernel_rfl)) (single_of (by kernel_rfl)) (NV wb xb r R) ?h0 ?hstep ?hend
  case h0 => exact ⟨(Upd.refl _ _).drew, fun h => (by cases h), fun h => (by cases h), fun h => (by cases h), fun h => (by cases h), fun h => (by cases h), fun h => (by cases h), fun h => (by cases h), fun h => (by cases h), fun h => by cases h⟩
  case hstep =>
    intro i hi
    have hi9 : i < 9 := hi
    clear hi
    rcases (show i = 0 ∨ i = 1 ∨ i = 2 ∨ i = 3 ∨ i = 4 ∨ i = 5 ∨ i = 6 ∨ i = 7 ∨ i = 8 by omega) with rfl | rfl | rfl | rfl | rfl | rfl | rfl | rfl | rfl
    · refine owes_of rfl (single_of (by kernel_rfl)) ?_
      intro L vs wx hV hL hdep fr hfr hfo K hK
      have e3 : fr.tmps[3]? = some (.pointer (some ⟨xb, 0, none⟩)) := hfo 3 (by kernel_rfl)
      clear hfr hfo
      go_simp
      exact hK _ _ hV.s0
    · refine owes_of rfl (single_of (by kernel_rfl)) ?_
      intro L vs wx hV hL hdep fr hfr hfo K hK
      have d0 : L 0 = true := hdep ⟨0, .data⟩ (by simp) rfl
      have e21 : fr.tmps[21]? = some (.pointer (some ⟨xb, 0, none⟩)) := (hfr 0 _ 21 rfl rfl d0 (show (21 : Nat) < 191 by decide)).trans (by rw [hV.l0 d0])
      obtain ⟨p0, p1, _, _⟩ := box24 (hV.upd.keep HX0.out (fun f => f))
      clear hfr hfo
      go_simp
      exact hK _ _ hV.s1
    · refine owes_of rfl (single_of (by kernel_rfl)) ?_
      intro L vs wx hV hL hdep fr hfr hfo K hK
      have d1 : L 1 = true := hdep ⟨1, .data⟩ (by simp) rfl
      have e22 : fr.tmps[22]? = some (.int .i64 r) := (hfr 1 _ 22 rfl rfl d1 (show (22 : Nat) < 191 by decide)).trans (by rw [hV.l1 d1])
      clear hfr hfo
      go_simp
      go_at_call 4
      refine (HNW.out _).mono ?_
      rintro e w5 ⟨db, S, rfl, i1, i2, i3⟩
      exact hK _ _ (hV.s2 hL i1 i2 i3)
    · refine owes_of rfl (single_of (by kernel_rfl)) ?_
      intro L vs wx hV hL hdep fr hfr hfo K hK
      have e3 : fr.tmps[3]? = some (.pointer (some ⟨xb, 0, none⟩)) := hfo 3 (by kernel_rfl)
      clear hfr hfo
      go_simp
      exact hK _ _ hV.s3
    · refine owes_of rfl (single_of (by kernel_rfl)) ?_
      intro L vs wx hV hL hdep fr hfr hfo K hK
      have d3 : L 3 = true := hdep ⟨3, .data⟩ (by simp) rfl
      have e24 : fr.tmps[24]? = some (.pointer (some ⟨xb, 0, none⟩)) := (hfr 3 _ 24 rfl rfl d3 (show (24 : Nat) < 191 by decide)).trans (by rw [hV.l3 d3])
      obtain ⟨p0, p1, _, _⟩ := box24 (hV.upd.keep HX0.out (fun f => f))
      clear hfr hfo
      go_simp
      exact hK _ _ hV.s4
    · refine owes_of rfl (single_of (by kernel_rfl)) ?_
      intro L vs wx hV hL hdep fr hfr hfo K hK
      have d4 : L 4 = true := hdep ⟨4, .data⟩ (by simp) rfl
      have e25 : fr.tmps[25]? = some (.int .i64 r) := (hfr 4 _ 25 rfl rfl d4 (show (25 : Nat) < 191 by decide)).trans (by rw [hV.l4 d4])
      clear hfr hfo
      go_simp
      go_at_call 5
      refine (HRW.out _).mono ?_
      rintro e w5 ⟨rfl, u5⟩
      exact hK _ _ (hV.keep u5).s5
    · refine owes_of rfl (single_of (by kernel_rfl)) ?_
      intro L vs wx hV hL hdep fr hfr hfo K hK
      clear hfr hfo
      go_simp
      exact hK _ _ (hV.s6 hL _ _)
    · refine owes_of rfl (single_of (by kernel_rfl)) ?_
      intro L vs wx hV hL hdep fr hfr hfo K hK
      have d2 : L 2 = true := hdep ⟨2, .data⟩ (by simp) rfl
      have e23 : fr.tmps[23]? = some (vs 2) := hfr 2 _ 23 rfl rfl d2 (show (23 : Nat) < 191 by decide)
      obtain ⟨db, S, k1, _, _, _⟩ := hV.l2 d2
      have HV2 := Lib.hid (hV.s7 d2)
      rw [k1] at e23 HV2
      clear hfr hfo k1
      go_simp
      exact hK _ _ HV2.out
    · refine owes_of rfl (single_of (by kernel_rfl)) ?_
      intro L vs wx hV hL hdep fr hfr hfo K hK
      have d6 : L 6 = true := hdep ⟨6, .data⟩ (by simp) rfl
      have d5 : L 5 = true := hdep ⟨5, .data⟩ (by simp) rfl
      have e26 : fr.tmps[26]? = some (.agg #[.int .i64 (R : Nat), .slice none 0 0]) := (hfr 5 _ 26 rfl rfl d5 (show (26 : Nat) < 191 by decide)).trans (by rw [hV.l5 d5])
      obtain ⟨qb, c0, c1, k1, _, k3, _⟩ := hV.l6 d6
      have e8 : fr.tmps[8]? = some (.pointer (some ⟨qb, 0, none⟩)) := (hfr 6 _ 8 rfl rfl d6 (show (8 : Nat) < 191 by decide)).trans (by rw [k1])
      obtain ⟨p0, p1, z0, z1⟩ := box2 k3
      have HV2 := Lib.hid (hV.s8 (x := undef) d6 k1)
      clear hfr hfo k3 k1
      go_simp
      exact hK _ _ HV2.out
  intro L vs wc hall hV
  obtain ⟨db, S0, k2, m2, m3, m4⟩ := hV.l2 (hall 2 (show (2 : Nat) < 9 by decide))
  obtain ⟨qb, c0, c1, k6, m6, hq, g6⟩ := hV.l6 (hall 6 (show (6 : Nat) < 9 by decide))
  have h6 := hall 6 (show (6 : Nat) < 9 by decide)
  obtain ⟨rfl, rfl⟩ := g6 (hall 8 (show (8 : Nat) < 9 by decide))
  have k7 := (hV.l7 (hall 7 (show (7 : Nat) < 9 by decide))).1
  rw [k2] at k7
  have hu := hV.upd
  have hq0 : QS wb wc S0 db qb R 0 [] [] none 0 := ⟨m2, m3, hu, RowAt.nil _ _, fun h => absurd rfl h, hq, m4 h6 qb k6, m6⟩
  have HQ0 := Lib.hid hq0
  clear hall hV m2 m3 m4 hq m6 hu hq0 h6 g6
  simp only [putAll, Act.put, List.setIfInBounds_toArray, List.set_cons_zero, List.set_cons_succ, k2, k6, k7]
  clear k2 k6 k7
  generalize vs 0 = b0 at *
  generalize vs 1 = b1 at *
  generalize vs 3 = b3 at *
  generalize vs 4 = b4 at *
  generalize vs 5 = b5 at *
  generalize vs 8 = b8 at *
  clear vs L
  obtain ⟨m, hm⟩ : ∃ m : Nat, min (nm0.size : Int) 70 = (m : Int) := ⟨min nm0.size 70, by omega⟩
  have hmc : (m : Int) ≤ (nm0.size : Int) := by omega
  have hm0 : (0 : Int) ≤ (m : Int) := by omega
  have hnm : (nm0.extract 0 m).size ≤ 70 := by rw [ByteArray.size_extract]; omega
  go_upto_region 5 with fail
  generalize nm0.extract 0 m = nm at *
  clear hm hmc hm0
  have HNM := Lib.hid hnm
  clear hnm
  go_upto_block 0 with fail
  go_cut [9] (fun s9 wx => ∃ (k : Nat) (S : Nat → Prop) (D : Files) (a : Option Addr) (cap : Nat), k ≤ 6 ∧ D.length ≤ k ∧ QS wb wx S db qb R k D D a cap)
  case first =>
    go_wp2_with fail
    go_loopw [9] (fun i wr => ∃ (k : Nat) (S : Nat → Prop) (D : Files) (a : Option Addr) (cap : Nat), i = .int .i64 k ∧ k ≤ xn ∧ k ≤ 6 ∧ D.length ≤ k ∧ QS wb wr S db qb R k D D a cap) (fun i _ => 6 - (intOf i).toNat)
    case atStart => exact ⟨0, S0, [], none, 0, rfl, by omega, by omega, by simp, HQ0.out⟩
    case round =>
      obtain ⟨k, S, D, a, cap, rfl, hk, hk6, hDl, h⟩ := hrel
      obtain ⟨p0, p1, z0, z1⟩ := box24 (h.upd.keep HX0.out (fun f => f))
      by_cases hg1 : k < xn
      · have hlt : (k : Int) < (xn : Int) := by omega
        by_cases hg2 : k < 6
        · have hd2 : (k : Int) < 6 := by omega
          have hk0 : (0 : Int) ≤ (k : Int) := by omega
          obtain ⟨g, o, s, t, rfl, c0, c1, hs, ht⟩ := HP.out.2 k hg1
          have e0 := cell_upd (HU.out.trans h.upd (fun _ _ f => f)) c0 (fun f => f)
          have e1 := cell_upd (HU.out.trans h.upd (fun _ _ f => f)) c1 (fun f => f)
          obtain ⟨m, hm⟩ : ∃ m : Nat, min (t.size : Int) 300 = (m : Int) := ⟨min t.size 300, by omega⟩
          have hmc : (m : Int) ≤ (t.size : Int) := by omega
          have hm0 : (0 : Int) ≤ (m : Int) := by omega
          have H := Lib.hid h
          clear h c0 c1
          go_upto_region 8 with fail
          go_quiet (fail)
          go_upto_region 9 with fail
          have HQ1 := Lib.hid (H.out.next ((Upd.refl (fun _ => False) wr).drewN nq))
          clear H
          have hts : (t.extract 0 m).size ≤ 300 := by rw [ByteArray.size_extract]; omega
          have HTS := Lib.hid hts
          clear hts hm hmc hm0 e0 e1 p0 p1 z0 z1
          generalize wr.drewN nq = w1 at *
          generalize t.extract 0 m = tt at *
          go_wp2_with fail
          refine (append_any HQ1.out.has s tt hs (by have := HTS.out; omega) (by unfold maxLen; omega)).mono ?_
          rintro e w2 ⟨rfl, S2, hh2, hn2, hu2⟩
          have HQ2 := Lib.hid (HQ1.out.prog hh2 ⟨hn2, hu2⟩)
          obtain ⟨q0, q1, q2, q3⟩ := HQ2.out.cells
          have HRA := Lib.hid (rappend_any HQ2.out.files HQ1.out.has.may hR63 (by omega) s tt (by have := HTS.out; omega))
          have hgr := (grew_append HQ1.out.has.may s tt).1
          generalize appendD R D s tt = r at *
          clear hh2 hn2 hu2
          go_wp2_with fail
          refine HRA.out.mono ?_
          rintro e w3 ⟨a3, cap3, rfl, hf3, hu3, hv3⟩
          have HQ3 := Lib.hid (HQ2.out.ref hf3 hu3 hv3)
          obtain ⟨q0, q1, q2, q3⟩ := (HQ2.out.next hu3).cells
          clear hf3 hu3 hv3
          go_wp2_with fail
          exact ⟨⟨k + 1, S2, r.1, a3, cap3, by go_num, by omega, by omega, by omega, HQ3.out⟩, by simp [intOf]; omega⟩
        · have hlt : ¬ (k : Int) < 6 := by omega
          go_wp2_with fail
          go_meet
          case rel => exact ⟨k, S, D, a, cap, hk6, hDl, h⟩
      · have hlt : ¬ (k : Int) < (xn : Int) := by omega
        go_wp2_with fail
        go_meet
        case rel => exact ⟨k, S, D, a, cap, hk6, hDl, h⟩
  case rest =>
    obtain ⟨k0, S1, D1, a1, cap1, hk6, hDl, h1⟩ := hcut
    have HQ1 := Lib.hid h1
    clear h1
    go_upto_block 2 with fail
    go_cut [12] (fun s12 wx => Upd (fun _ => False) wb wx)
    case first =>
      go_wp2_with fail
      go_loopw [12] (fun i wr => ∃ (k : Nat) (S : Nat → Prop) (D : Files) (a : Option Addr) (cap n : Nat), i = .int .i64 k ∧ k ≤ 2 ∧ n ≤ 6 + 2 * k ∧ D.length ≤ 6 + 4 * k ∧ QS wb wr S db qb R n D D a cap) (fun i _ => 2 - (intOf i).toNat)
      case atStart => exact ⟨0, S1, D1, a1, cap1, k0, rfl, by omega, by omega, by omega, HQ1.out⟩
      case round =>
        obtain ⟨k, S, D, a, cap, n, rfl, hk, hn, hDl2, h⟩ := hrel
        by_cases hg : k < 2
        · have hlt : (k : Int) < 2 := by omega
          have H := Lib.hid h
          have hsz := disk_size h.has hR63 (nm := nm)
          obtain ⟨x, y, lls, c, hr⟩ : ∃ x y lls c, loadX (loadR D nm) = (x, y, lls, c) := ⟨_, _, _, _, rfl⟩
          have HLX := Lib.hid hr
          have HSZ := Lib.hid hsz
          have HQD := Lib.hid h.has.may
          clear h hr hsz
          go_wp2_with fail
          refine (load_full H.out.has nm (by have := HNM.out; unfold maxLen; omega) HSZ.out).mono ?_
          rintro e w1 hl1
          obtain ⟨b1, c1, rfl, hv1, hu1⟩ := load_x HLX.out hl1
          have H1 := Lib.hid (H.out.next hu1)
          have HV1 := Lib.hid hv1
          clear hl1 hv1 hu1
          go_upto_region 15 with fail
          have hua : Upd (fun _ => False) w1 (w1.alloc (.cells #[.int .u64 (x : Nat), .int .u64 (y : Nat), .slice b1 lls.length c1] 28)) := (Upd.refl _ w1).alloc _
          have hxa := heap_alloc (w := w1) (.cells #[.int .u64 (x : Nat), .int .u64 (y : Nat), .slice b1 lls.length c1] 28)
          have H2 := Lib.hid (H1.out.next hua)
          have HV2 := Lib.hid (HV1.out.upd0 hua)
          have HA2 := Lib.hid hxa
          clear hua hxa H1 HV1
          generalize w1.alloc (.cells #[.int .u64 (x : Nat), .int .u64 (y : Nat), .slice b1 lls.length c1] 28) = w2 at *
          generalize w1.heap.size = ab at *
          obtain ⟨q0, q1, q2, q3⟩ := H2.out.cells
          go_wp2_with fail
          refine (rload_any H2.out.files H2.out.has.may.srt nm HSZ.out).mono ?_
          rintro e w3 hl3
          obtain ⟨b3', c3, rfl, hv3, hu3⟩ := load_x HLX.out hl3
          have H3 := Lib.hid (H2.out.next hu3)
          have HV3 := Lib.hid (HV2.out.upd0 hu3)
          have HW3 := Lib.hid hv3
          have HA3 := Lib.hid (hu3.keep HA2.out (fun f => f))
          clear hl3 hv3 hu3 q0 q1 q2 q3 H2 HV2 HA2
          go_upto_region 16 with fail
          have hua : Upd (fun _ => False) w3 (w3.alloc (.cells #[.int .u64 (x : Nat), .int .u64 (y : Nat), .slice b3' lls.length c3] 28)) := (Upd.refl _ w3).alloc _
          have hxa := heap_alloc (w := w3) (.cells #[.int .u64 (x : Nat), .int .u64 (y : Nat), .slice b3' lls.length c3] 28)
          have H4 := Lib.hid (H3.out.next hua)
          have HV4 := Lib.hid (HV3.out.upd0 hua)
          have HW4 := Lib.hid (HW3.out.upd0 hua)
          have HA4 := Lib.hid (hua.keep HA3.out (fun f => f))
          obtain ⟨q0, q1, q2⟩ := box_cells hxa
          obtain ⟨q3, q4, q5⟩ := box_cells HA4.out
          clear hua hxa H3 HV3 HW3 HA3
          generalize w3.alloc (.cells #[.int .u64 (x : Nat), .int .u64 (y : Nat), .slice b3' lls.length c3] 28) = w4 at *
          generalize w3.heap.size = bb at *
          go_wp2_with fail
          refine (rsame_state rfl HV4.out HW4.out).mono ?_
          rintro e w5 ⟨rfl, hu5⟩
          have H5 := Lib.hid (H4.out.next hu5)
          clear hu5 q0 q1 q2 q3 q4 q5 HV4 HW4 HA4 H4
          obtain ⟨q0, q1, q2⟩ := box_cells (H5.out.upd.keep HX1.out (fun f => f))
          go_wp2_with fail
          have HUF := Lib.hid (HF.out.2.1.upd0 (HU.out.trans H5.out.upd (fun _ _ f => f)))
          refine (short_out HF.out.1 HUF.out HF.out.2.2.1).mono ?_
          rintro e w6 ⟨sa6, sc6, rfl, ho6, hu6⟩
          have H6 := Lib.hid (H5.out.next hu6)
          have HL6 := Lib.hid ho6.levs
          clear ho6 hu6 q0 q1 q2 H5 HUF
          have hsl := save_len H6.out.has.may nm ⟨nx, lg, shortL ls⟩
          have HSF := Lib.hid (save_full (s := ⟨nx, lg, shortL ls⟩) H6.out.has rfl HL6.out (short_ok HF.out.2.2.2.1) nm (by unfold maxLen; omega))
          go_wp2_with fail
          refine HSF.out.mono ?_
          rintro e w7 ⟨rfl, S7, hh7, hc7⟩
          have H7 := Lib.hid (H6.out.prog hh7 hc7)
          clear hh7 hc7 HSF H6 HL6
          obtain ⟨q0, q1, q2⟩ := box_cells (H7.out.upd.keep HX1.out (fun f => f))
          obtain ⟨r0, r1, r2, r3⟩ := H7.out.cells
          go_upto_region 19 with fail
          have HMD := Lib.hid HQD.out
          have HSR : Hid (∀ (w' : World) (sa' : Option Addr) (sc' : Nat), Upd (fun _ => False) w7 w' → LevsAt w' (.slice sa' (shortL ls).length sc') (shortL ls) → Calls Tryz.prog 13 #[.agg #[.int .i64 (R : Nat), .slice a D.length cap], .string nm, .agg #[.int .u64 (nx : Nat), .int .u64 (lg : Nat), .slice sa' (shortL ls).length sc']] w' (RefPost2 (R : Nat) (.slice a D.length cap) (saveR R D nm ⟨nx, lg, shortL ls⟩) w')) := fun w' sa' sc' hu hl => rsave_any (s := ⟨nx, lg, shortL ls⟩) (H7.out.files.upd0 hu) HMD.out hR63 (by omega) rfl hl (short_len ls) nm
          have HSH : Hid (∀ w' : World, Upd (fun _ => False) w7 w' → Calls Tryz.prog 12 #[.agg #[.int .u64 (nx : Nat), .int .u64 (lg : Nat), .slice sa sn sc]] w' (ShortOut nx lg ls w')) := fun w' hu => short_out HF.out.1 (HF.out.2.1.upd0 (HU.out.trans (H7.out.upd.trans hu (fun _ _ f => f)) (fun _ _ f => f))) HF.out.2.2.1
          have HQ7 : Hid (∀ w' : World, Upd (fun _ => False) w7 w' → w'.cell? ⟨qb, 0, none⟩ = some (.int .i64 (R : Nat)) ∧ w'.cell? ⟨qb, 1, none⟩ = some (.slice a D.length cap) ∧ w'.frozen? ⟨qb, 0, none⟩ = false ∧ w'.frozen? ⟨qb, 1, none⟩ = false) := fun w' hu => (H7.out.next hu).cells
          have HQ8 : Hid (∀ w' : World, Upd (fun _ => False) w7 w' → w'.cell? ⟨xb + 1, 0, none⟩ = some (.int .u64 (nx : Nat)) ∧ w'.cell? ⟨xb + 1, 1, none⟩ = some (.int .u64 (lg : Nat)) ∧ w'.cell? ⟨xb + 1, 2, none⟩ = some (.slice sa sn sc)) := fun w' hu => box_cells ((H7.out.upd.trans hu (fun _ _ f => f)).keep HX1.out (fun f => f))
          generalize saveR R D nm ⟨nx, lg, shortL ls⟩ = rs at *
          clear q0 q1 q2 r0 r1 r2 r3
          obtain ⟨q0, q1, q2⟩ := HQ8.out w7 (Upd.refl _ w7)
          obtain ⟨r0, r1, r2, r3⟩ := HQ7.out w7 (Upd.refl _ w7)
          have H7m := Lib.hid H7.out.has.may
          go_cut [16] (fun s16 wx => ∃ (a' : Option Addr) (cap' : Nat), s16 = .int .i64 (rs.2 : Nat) ∧ QS wb wx S7 db qb R (n + 2) rs.1 rs.1 a' cap')
          case first =>
            go_region_with (first | (go_at_call 12; refine (HSH.out _ (Upd.refl _ w7).drew).mono ?_; rintro e w8 ⟨sa8, sc8, rfl, ho8, hu8⟩; have HL8 := Lib.hid ho8.levs; have HU8 := Lib.hid ((Upd.refl (fun _ => False) w7).drew.trans hu8 (fun _ _ f => f)); clear ho8 hu8; obtain ⟨s0, s1, s2, s3⟩ := HQ7.out _ HU8.out; obtain ⟨x0, x1, x2⟩ := HQ8.out _ HU8.out) | (go_at_call 13; refine (HSR.out _ _ _ HU8.out HL8.out).mono ?_; rintro e w9 ⟨a9, cap9, rfl, hf9, hu9, hv9⟩; have HF9 := Lib.hid hf9; have HU9 := Lib.hid hu9; have HV9 := Lib.hid hv9; clear hf9 hu9 hv9; obtain ⟨y0, y1, y2, y3⟩ := HQ7.out _ (HU8.out.trans HU9.out (fun _ _ f => f))))
            all_goals go_wp2_with fail
            all_goals go_meet
            all_goals exact ⟨a9, cap9, rfl, (H7.out.next HU8.out).ref HF9.out HU9.out HV9.out⟩
          case rest =>
            obtain ⟨a', cap', rfl, h9⟩ := hcut
            have H9 := Lib.hid h9
            clear h9 HSR HSH HQ7 HQ8 q0 q1 q2 r0 r1 r2 r3 H7
            obtain ⟨DD, cc⟩ := rs
            simp only at hsl H9 H7m
            go_wp2_with fail
            refine (list_any H9.out.has ⟨#[]⟩ (by omega)).mono ?_
            rintro e w10 ⟨v, rfl, o10, u10⟩
            rw [list_nil] at o10
            obtain ⟨la, lc, hv⟩ := (StrsAt.of_own o10).slice
            rw [List.length_map] at hv
            subst hv
            have HS10 := Lib.hid (StrsAt.of_own o10)
            have H10 := Lib.hid (H9.out.next u10)
            clear o10 u10 H9
            have hDD : DD.length ≤ 9223372036854775807 := by omega
            obtain ⟨fr, h54, h55⟩ : ∃ fr : Int, (∀ w', Upd (fun _ => False) w10 w' → Calls Tryz.prog 15 #[.pointer (some ⟨db, 0, none⟩)] w' (fun e w2 => e = .returned (.int .i64 fr) ∧ Upd (fun _ => False) w' w2)) ∧ (∀ w', Upd (fun _ => False) w10 w' → Calls Tryz.prog 16 #[.agg #[.int .i64 (R : Nat), .slice a' DD.length cap']] w' (fun e w2 => e = .returned (.int .i64 fr) ∧ Upd (fun _ => False) w' w2)) := by
              refine ⟨(R : Int) - (total DD : Nat), fun w' hu => ?_, fun w' hu => ?_⟩
              · refine (free_any (H10.out.next hu).has).mono ?_
                rintro e w2 ⟨rfl, hx⟩
                exact ⟨by rw [show ((R - total DD : Nat) : Int) = (R : Int) - (total DD : Nat) from by have := H10.out.has.may.fits; omega], hx⟩
              · exact rfree_any rfl (H10.out.next hu).files hR63 H10.out.has.may.fits
            have H54 := Lib.hid h54
            have H55 := Lib.hid h55
            have HQC : Hid (∀ w' : World, Upd (fun _ => False) w10 w' → w'.cell? ⟨qb, 0, none⟩ = some (.int .i64 (R : Nat)) ∧ w'.cell? ⟨qb, 1, none⟩ = some (.slice a' DD.length cap')) := fun w' hu => ⟨(H10.out.next hu).cells.1, (H10.out.next hu).cells.2.1⟩
            have HUd : Hid (Upd (fun _ => False) w10 w10.drew) := (Upd.refl (fun _ => False) w10).drew
            have cs0 := HQC.out w10.drew HUd.out
            obtain ⟨t0, t1⟩ := HQC.out w10 (Upd.refl _ w10)
            clear h54 h55
            go_upto_region 21 with fail
            go_region_held3 (fun w' => w'.cell? ⟨qb, 0, none⟩ = some (.int .i64 (R : Nat)) ∧ w'.cell? ⟨qb, 1, none⟩ = some (.slice a' DD.length cap')) (first | exact cs0 | exact csA | exact csB) (first | (go_at_call 15; refine (H54.out _ HUd.out).mono ?_; rintro e wA ⟨rfl, u1⟩; have huA := HUd.out.trans u1 (fun _ _ f => f); have csA := HQC.out wA huA; clear u1) | (go_at_call 16; refine (H55.out _ huA).mono ?_; rintro e wB ⟨rfl, u1⟩; have huB := huA.trans u1 (fun _ _ f => f); have csB := HQC.out wB huB; clear u1))
            go_wp2_with fail
            have HQB := Lib.hid (H10.out.next huB)
            have HSB := Lib.hid (HS10.out.upd0 huB)
            clear csA csB cs0 t0 t1 huA huB H54 H55 HQC HUd H10 HS10
            go_loopw [18] (fun i wz => ∃ j : Nat, i = .int .i64 j ∧ j ≤ DD.length ∧ Upd (fun _ => False) wB wz) (fun i _ => DD.length - (intOf i).toNat)
            case atStart => exact ⟨0, rfl, by omega, Upd.refl _ _⟩
            case round =>
              obtain ⟨j, rfl, hj, huz⟩ := hrel
              have HQZ := Lib.hid (HQB.out.next huz)
              have HSZ2 := Lib.hid (HSB.out.upd0 huz)
              by_cases hlj : j < DD.length
              · have hlti : (j : Int) < (DD.length : Int) := by omega
                have hj0 : (0 : Int) ≤ (j : Int) := by omega
                obtain ⟨gs, os, rfl, es⟩ := HSZ2.out.cell (i := j) (by rw [List.length_map]; exact hlj)
                rw [List.getElem_map] at es
                obtain ⟨gf, of, rfl, f0, f1, f2⟩ := HQZ.out.files.cell hlj
                obtain ⟨hrd, hsy⟩ := read_of H7m.out hlj
                have hnz : DD[j].name.size ≤ maxLen := nameOk_max (H7m.out.names _ (List.getElem_mem hlj))
                have HRD : Hid (Calls Tryz.prog 17 #[.pointer (some ⟨db, 0, none⟩), .string DD[j].name] wr (ReadPost (DD[j].bytes, 0) wr)) := by
                  have h2 := read_any HQZ.out.has DD[j].name hnz
                  rw [hrd] at h2
                  exact h2
                have HSYN : Hid (∀ w', Upd (fun _ => False) wr w' → Calls Tryz.prog 18 #[.pointer (some ⟨db, 0, none⟩), .string DD[j].name] w' (SyncedPost DD[j].synced w')) := fun w' hu => by
                  have h2 := synced_any (HQZ.out.next hu).has DD[j].name hnz
                  rw [hsy] at h2
                  exact h2
                obtain ⟨t0, t1, _, _⟩ := HQZ.out.cells
                clear hrd hsy hnz
                generalize DD[j].name = fn at *
                generalize DD[j].bytes = fb at *
                generalize DD[j].synced = fs at *
                go_wp2_with fail
                refine HRD.out.mono ?_
                rintro e w' ⟨rfl, rfl⟩
                have hcs : wr.drew.cell? ⟨qb, 1, none⟩ = some (.slice (some ⟨gf, of, none⟩) DD.length cap') ∧ wr.drew.cell? ⟨gs, os + j, none⟩ = some (.string fn) ∧ wr.drew.cell? ⟨gf, of + j * 3, none⟩ = some (.string fn) ∧ wr.drew.cell? ⟨gf, of + j * 3 + 1, none⟩ = some (.string fb) ∧ wr.drew.cell? ⟨gf, of + j * 3 + 2, none⟩ = some (.int .i64 (fs : Nat)) := ⟨t1, es, f0, f1, f2⟩
                go_upto_region 27 with fail
                go_region_held3 (fun w' => w'.cell? ⟨qb, 1, none⟩ = some (.slice (some ⟨gf, of, none⟩) DD.length cap') ∧ w'.cell? ⟨gs, os + j, none⟩ = some (.string fn) ∧ w'.cell? ⟨gf, of + j * 3, none⟩ = some (.string fn) ∧ w'.cell? ⟨gf, of + j * 3 + 1, none⟩ = some (.string fb) ∧ w'.cell? ⟨gf, of + j * 3 + 2, none⟩ = some (.int .i64 (fs : Nat))) (exact hcs) (first | (go_at_call 18; refine (HSYN.out _ (Upd.refl (fun _ => False) wr).drew).mono ?_; rintro e wC ⟨rfl, rfl⟩))
                go_wp2_with fail
                exact ⟨⟨j + 1, by go_num, by omega, huz.drew⟩, by simp [intOf]; omega⟩
              · have hlti : ¬ (j : Int) < (DD.length : Int) := by omega
                go_wp2_with fail
                exact ⟨⟨k + 1, S7, DD, a', cap', n + 2, by go_num, by omega, by omega, by omega, HQZ.out⟩, by simp [intOf]; omega⟩
        · have hlt : ¬ (k : Int) < 2 := by omega
          go_wp2_with fail
          go_meet
          case rel => exact h.upd
    case rest =>
      have HC := Lib.hid hcut
      clear hcut
      go_wp2_with fail
      refine (mworks_any _).mono ?_
      rintro e w9 ⟨rfl, hu9⟩
      go_wp2_with fail
      go_ret
      exact ⟨rfl, (HU.out.trans HC.out (fun _ _ f => f)).trans hu9 (fun _ _ f => f)⟩
end Go.Proofs.YtgkegfgdpekehaaGreat
/- ManifestSaves' walk, as the form asks it. -/
namespace Go.Proofs.YtgkegfgdpekehaaGreat
open Go.RowKit Go.Acre Go.Acre.Dk
theorem saves_all (r : Int) (xa : Option Addr) (xn xc : Nat) (nm0 : ByteArray) (nx lg : Nat) (sa : Option Addr) (sn sc : Nat) (ls : List (List PF)) (w : World) (hp : (Lit.int .i64 r).wf = true ∧ PairsIn w xa xn) (hb : nm0.size ≤ 140737488351232) (hf : FilesIn w nx lg sa sn sc ls) :
    Calls Tryz.prog 3 #[.agg #[.int .i64 r, .slice xa xn xc], .string nm0, .agg #[.int .u64 (nx : Nat), .int .u64 (lg : Nat), .slice sa sn sc]] w (Fresh true w) := saves_any nm0 hp.1 hp.2 hf hb
end Go.Proofs.YtgkegfgdpekehaaGreat
