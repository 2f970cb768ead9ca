/- Save and Load, whatever the name, the state and the bytes. -/
import Derived.Test.YtgkegfgdpekehaaGreatMy
namespace Go.Proofs.YtgkegfgdpekehaaGreat
open Go.RowKit Go.Acre Go.Acre.Dk
def saveR (room : Nat) (D : Files) (nm : ByteArray) (s : MSt) : Files × Nat :=
  if mayS s = true ∧ 1 ≤ nm.size ∧ nm.size ≤ 60 then saveD room D nm (nm ++ nwN) (frameB (stateB s)) else (D, 2)
theorem bytes_nil {b : ByteArray} (h : b.size = 0) : b = ⟨#[]⟩ := by
  have h2 : b.data.size = 0 := h
  obtain ⟨d⟩ := b
  simp only [Array.size_eq_zero_iff] at h2
  rw [h2]
set_option maxHeartbeats 8000000 in
set_option maxRecDepth 100000 in
theorem save_bad {w : World} {p : Option Addr} {s : MSt} {a : Option Addr} {nl ca : Nat} (hp : p ≠ none) (hn : nl = s.levels.length) (hL : LevsAt w (.slice a nl ca) s.levels) (hid : ∀ y ∈ flat s.levels, y.2.id < 18446744073709551616)
    (nm : ByteArray) (hnm : ¬ (mayS s = true ∧ 1 ≤ nm.size ∧ nm.size ≤ 60)) :
    Calls Tryz.prog 11 #[.pointer p, .string nm, .agg #[.int .u64 (s.next : Nat), .int .u64 (s.log : Nat), .slice a nl ca]] w (fun e w' => e = .returned (.int .i64 2) ∧ Upd (fun _ => False) w w') := by
  obtain ⟨pa, rfl⟩ : ∃ pa, p = some pa := by cases p with | none => exact absurd rfl hp | some pa => exact ⟨pa, rfl⟩
  have hu1 : Upd (fun _ => False) w (w.alloc (.cells #[.int .u64 (s.next : Nat), .int .u64 (s.log : Nat), .slice a nl ca] 28)) := (Upd.refl _ w).alloc _
  have hx1 := heap_alloc (w := w) (.cells #[.int .u64 (s.next : Nat), .int .u64 (s.log : Nat), .slice a nl ca] 28)
  have h2 := encode_any (s := s) hn (hL.upd0 hu1) hid
  unfold EncPost at h2
  have HU := Lib.hid hu1
  have HX := Lib.hid hx1
  by_cases hm : mayS s = true
  · rw [(enc_yes hm).1, (enc_yes hm).2] at h2
    have HE := Lib.hid h2
    generalize frameB (stateB s) = fb at *
    by_cases h0 : nm.size = 0
    · obtain rfl := bytes_nil h0
      clear hm h2 hn hL hid hnm h0 hu1 hx1
      go_enter Tryz.func11, Tryz.ntmps11
      go_upto_region 1 with fail
      generalize w.alloc (.cells #[.int .u64 (s.next : Nat), .int .u64 (s.log : Nat), .slice a nl ca] 28) = wb at *
      obtain ⟨p0, p1, p2⟩ := box_cells HX.out
      go_wp2_with (go_at_call 28; refine HE.out.mono ?_; rintro e w1 ⟨rfl, hu⟩)
      go_ret
      exact ⟨rfl, HU.out.trans hu (fun _ _ f => f)⟩
    · have hne : (nm.toList == (⟨#[]⟩ : ByteArray).toList) = false := by
        rw [str_eql]
        refine decide_eq_false (fun e => ?_)
        rw [e] at h0
        exact h0 rfl
      have hne2 : ¬ nm = (⟨#[]⟩ : ByteArray) := fun e => by
        rw [e] at h0
        exact h0 rfl
      have hne3 : ¬ nm.toList = [] := fun e => by
        rw [ByteArray.toList_eq] at e
        have h2 : nm.data.size = 0 := by rw [← Array.length_toList, e]; rfl
        exact h0 h2
      have hgt : (nm.size : Int) > 60 := by
        have : ¬ (1 ≤ nm.size ∧ nm.size ≤ 60) := fun h => hnm ⟨hm, h⟩
        omega
      have hgt2 : decide ((60 : Int) < (nm.size : Int)) = true := by simp; omega
      clear hm h2 hn hL hid hnm h0 hu1 hx1
      go_enter Tryz.func11, Tryz.ntmps11
      go_upto_region 1 with fail
      generalize w.alloc (.cells #[.int .u64 (s.next : Nat), .int .u64 (s.log : Nat), .slice a nl ca] 28) = wb at *
      obtain ⟨p0, p1, p2⟩ := box_cells HX.out
      go_wp2_with (go_at_call 28; refine HE.out.mono ?_; rintro e w1 ⟨rfl, hu⟩)
      go_ret
      exact ⟨rfl, HU.out.trans hu (fun _ _ f => f)⟩
  · rw [(enc_no hm).1, (enc_no hm).2] at h2
    have HE := Lib.hid h2
    clear hm h2 hn hL hid hnm hu1 hx1
    go_enter Tryz.func11, Tryz.ntmps11
    go_upto_region 1 with fail
    generalize w.alloc (.cells #[.int .u64 (s.next : Nat), .int .u64 (s.log : Nat), .slice a nl ca] 28) = wb at *
    obtain ⟨p0, p1, p2⟩ := box_cells HX.out
    go_wp2_with (go_at_call 28; refine HE.out.mono ?_; rintro e w1 ⟨rfl, hu⟩)
    go_ret
    exact ⟨rfl, HU.out.trans hu (fun _ _ f => f)⟩
set_option maxHeartbeats 8000000 in
set_option maxRecDepth 100000 in
theorem save_full {w : World} {S : Nat → Prop} {db room n : Nat} {D : Files} (h : Has w S db room n D) {s : MSt} {a : Option Addr} {nl ca : Nat} (hn : nl = s.levels.length) (hL : LevsAt w (.slice a nl ca) s.levels) (hid : ∀ y ∈ flat s.levels, y.2.id < 18446744073709551616)
    (nm : ByteArray) (hnn : n + 2 < maxLen) :
    Calls Tryz.prog 11 #[.pointer (some ⟨db, 0, none⟩), .string nm, .agg #[.int .u64 (s.next : Nat), .int .u64 (s.log : Nat), .slice a nl ca]] w (SavePost S w db room (n + 2) (saveR room D nm s)) := by
  unfold saveR
  by_cases hc : mayS s = true ∧ 1 ≤ nm.size ∧ nm.size ≤ 60
  · rw [if_pos hc]
    exact save_any h hn hL hc.1 nm hc.2 hnn
  · rw [if_neg hc]
    refine (save_bad (by simp) hn hL hid nm hc).mono ?_
    rintro e w' ⟨rfl, hu⟩
    exact ⟨rfl, S, (h.upd hu (fun _ _ f => f)).mono (by omega), Chain.of_upd0 hu⟩
set_option maxRecDepth 100000 in
theorem save_nil {w : World} {s : Value} {c0 c1 c2 : Value} (hs : s = .agg #[c0, c1, c2]) (nm : ByteArray) :
    Calls Tryz.prog 11 #[.pointer none, .string nm, s] w (fun e w' => e = .returned (.int .i64 1) ∧ Upd (fun _ => False) w w') := by
  subst hs
  go_enter Tryz.func11, Tryz.ntmps11
  go_wp2_with fail
  go_ret
  exact ⟨rfl, (Upd.refl _ w).alloc _⟩
def loadR (D : Files) (nm : ByteArray) : Option MSt × Nat :=
  match get En D nm with
  | none => (none, 5)
  | some f => match decodeS f.bytes with
    | none => (none, 4)
    | some x => (some x, 0)
def LoadOut (r : Option MSt × Nat) (w : World) (e : Ending) (w' : World) : Prop :=
  match r with
  | (none, c) => e = .returned (.tuple #[.agg #[.int .u64 0, .int .u64 0, .slice none 0 0], .int .i64 (c : Nat)]) ∧ Upd (fun _ => False) w w'
  | (some x, c) => ∃ a cap, e = .returned (.tuple #[.agg #[.int .u64 (x.next : Nat), .int .u64 (x.log : Nat), .slice a x.levels.length cap], .int .i64 (c : Nat)]) ∧ OutAt w' w.heap.size (.slice a x.levels.length cap) x.levels ∧ Upd (fun _ => False) w w'
set_option maxHeartbeats 8000000 in
set_option maxRecDepth 100000 in
theorem load_some {w : World} {S : Nat → Prop} {db room n : Nat} {D : Files} (h : Has w S db room n D) (nm : ByteArray) (hnm : nm.size ≤ maxLen) {f : Ent} {x : MSt} (hg : get En D nm = some f) (hx : decodeS f.bytes = some x) (hsz : f.bytes.size ≤ 9223372036854775807) :
    Calls Tryz.prog 8 #[.pointer (some ⟨db, 0, none⟩), .string nm] w (LoadOut (some x, 0) w) := by
  have hu1 : Upd (fun _ => False) w (w.alloc (.cells #[.int .u64 0, .int .u64 0, .slice none 0 0] 28)) := (Upd.refl _ w).alloc _
  have hx1 := heap_alloc (w := w) (.cells #[.int .u64 0, .int .u64 0, .slice none 0 0] 28)
  have hrd := read_any (h.upd hu1 (fun _ _ f => f)) nm hnm
  have hws : (w.alloc (.cells #[.int .u64 0, .int .u64 0, .slice none 0 0] 28)).heap.size = w.heap.size + 1 := by simp
  have HU := Lib.hid hu1
  have HX := Lib.hid hx1
  have HWS := Lib.hid hws
  have hr : readD D nm = (f.bytes, 0) := by unfold readD; rw [hg]
  rw [hr] at hrd
  have HR := Lib.hid hrd
  have HD : Hid (∀ w', Calls Tryz.prog 25 #[.string f.bytes] w' (fun e w2 => ∃ a cap, e = .returned (.tuple #[.agg #[.int .u64 (x.next : Nat), .int .u64 (x.log : Nat), .slice a x.levels.length cap], .int .i64 0]) ∧ OutAt w2 w'.heap.size (.slice a x.levels.length cap) x.levels ∧ Upd (fun _ => False) w' w2)) := fun w' => by
    have h2 := decode_out (w := w') f.bytes hsz
    rw [hx] at h2
    exact h2
  clear hrd hr hg hu1 hx1 hx hws
  go_enter Tryz.func8, Tryz.ntmps8
  go_upto_region 1 with fail
  generalize w.alloc (.cells #[.int .u64 0, .int .u64 0, .slice none 0 0] 28) = wb at *
  generalize hxb : w.heap.size = xb at *
  go_wp2_with (go_at_call 17; refine HR.out.mono ?_; clear HR; rintro e w1 ⟨rfl, rfl⟩)
  refine (HD.out _).mono ?_
  rintro e w2 ⟨da, dc, rfl, ho, hu⟩
  have hx2 := hu.keep HX.out (fun f => f)
  have hbl := lt_of_heap HX.out
  obtain ⟨p0, p1, p2⟩ := box_cells hx2
  have z0 := frozen_of_heap hx2 0 none
  have z1 := frozen_of_heap hx2 1 none
  have z2 := frozen_of_heap hx2 2 none
  have HX2 := Lib.hid hx2
  have HO := Lib.hid ho
  have HU2 := Lib.hid (HU.out.trans hu (fun _ _ f => f))
  clear hx2 ho hu
  go_wp2_with fail
  try simp only [Exit.inBlock, Exit.then]
  refine bodyPost_ret (results_row2 rfl _ _ xb 28 _ (0, 0) _ rfl (cells3 HX2.out) Tryz.underlying28 rfl (by kernel_rfl)) rfl ?_
  exact ⟨da, dc, rfl, (HO.out.upd (S := fun i => i = xb) upd3 (fun k e => by have := HWS.out; omega)).base (by have := HWS.out; omega), HU2.out.trans upd3 (fun i hi e => by omega)⟩
set_option maxHeartbeats 8000000 in
set_option maxRecDepth 100000 in
theorem load_full {w : World} {S : Nat → Prop} {db room n : Nat} {D : Files} (h : Has w S db room n D) (nm : ByteArray) (hnm : nm.size ≤ maxLen) (hf : ∀ f, get En D nm = some f → f.bytes.size ≤ 9223372036854775807) :
    Calls Tryz.prog 8 #[.pointer (some ⟨db, 0, none⟩), .string nm] w (LoadOut (loadR D nm) w) := by
  cases hg : get En D nm with
  | none =>
    have e : loadR D nm = (none, 5) := by unfold loadR; rw [hg]
    rw [e]
    have h2 := load_any h nm hnm (fun f hf2 => by rw [hg] at hf2; cases hf2)
    rw [hg] at h2
    exact h2
  | some f =>
    cases hd : decodeS f.bytes with
    | some x =>
      have e : loadR D nm = (some x, 0) := by unfold loadR; rw [hg]; simp only [hd]
      rw [e]
      exact load_some h nm hnm hg hd (hf f hg)
    | none =>
      have e : loadR D nm = (none, 4) := by unfold loadR; rw [hg]; simp only [hd]
      rw [e]
      have hu1 : Upd (fun _ => False) w (w.alloc (.cells #[.int .u64 0, .int .u64 0, .slice none 0 0] 28)) := (Upd.refl _ w).alloc _
      have hx1 := heap_alloc (w := w) (.cells #[.int .u64 0, .int .u64 0, .slice none 0 0] 28)
      have hrd := read_any (h.upd hu1 (fun _ _ f => f)) nm hnm
      have HU := Lib.hid hu1
      have HX := Lib.hid hx1
      have hr : readD D nm = (f.bytes, 0) := by unfold readD; rw [hg]
      rw [hr] at hrd
      have HR := Lib.hid hrd
      have HD : Hid (∀ w', Calls Tryz.prog 25 #[.string f.bytes] w' (DecOut none w')) := fun w' => by rw [← hd]; exact decode_out f.bytes (hf f hg)
      clear hrd hr hf hg hu1 hx1 hd e
      go_enter Tryz.func8, Tryz.ntmps8
      go_upto_region 1 with fail
      generalize w.alloc (.cells #[.int .u64 0, .int .u64 0, .slice none 0 0] 28) = wb at *
      generalize hxb : w.heap.size = xb at *
      go_wp2_with (go_at_call 17; refine HR.out.mono ?_; clear HR; rintro e w1 ⟨rfl, rfl⟩)
      refine (HD.out _).mono ?_
      rintro e w2 ⟨rfl, hu⟩
      have hx2 := hu.keep HX.out (fun f => f)
      have hbl := lt_of_heap HX.out
      obtain ⟨p0, p1, p2⟩ := box_cells hx2
      have z0 := frozen_of_heap hx2 0 none
      have z1 := frozen_of_heap hx2 1 none
      have z2 := frozen_of_heap hx2 2 none
      have HX2 := Lib.hid hx2
      have HU2 := Lib.hid (HU.out.trans hu (fun _ _ f => f))
      clear hx2 hu
      go_wp2_with fail
      try simp only [Exit.inBlock, Exit.then]
      refine bodyPost_ret (results_row2 rfl _ _ xb 28 _ (0, 0) _ rfl (cells3 HX2.out) Tryz.underlying28 rfl (by kernel_rfl)) rfl ?_
      exact ⟨rfl, HU2.out.trans upd3 (fun i hi e => by omega)⟩
set_option maxRecDepth 100000 in
theorem load_nil {w : World} (nm : ByteArray) :
    Calls Tryz.prog 8 #[.pointer none, .string nm] w (LoadOut (none, 1) w) := by
  have hu1 : Upd (fun _ => False) w (w.alloc (.cells #[.int .u64 0, .int .u64 0, .slice none 0 0] 28)) := (Upd.refl _ w).alloc _
  have hx1 := heap_alloc (w := w) (.cells #[.int .u64 0, .int .u64 0, .slice none 0 0] 28)
  have HU := Lib.hid hu1
  have HX := Lib.hid hx1
  clear hu1 hx1
  go_enter Tryz.func8, Tryz.ntmps8
  go_upto_region 1 with fail
  generalize w.alloc (.cells #[.int .u64 0, .int .u64 0, .slice none 0 0] 28) = wb at *
  generalize hxb : w.heap.size = xb at *
  obtain ⟨p0, p1, p2⟩ := box_cells HX.out
  have z0 := frozen_of_heap HX.out 0 none
  have z1 := frozen_of_heap HX.out 1 none
  have z2 := frozen_of_heap HX.out 2 none
  go_wp2_with fail
  try simp only [Exit.inBlock, Exit.then]
  refine bodyPost_ret (results_row2 rfl _ _ xb 28 _ (0, 0) _ rfl (cells3 HX.out) Tryz.underlying28 rfl (by kernel_rfl)) rfl ?_
  exact ⟨rfl, HU.out.trans upd3 (fun i hi e => by omega)⟩
end Go.Proofs.YtgkegfgdpekehaaGreat
