/- DiskKeeps' walk (strings of at most 2^20 bytes). -/
import Derived.Test.YtgkegfgdpekehaaDm
import Derived.Test.YtgkegfgdpekehaaDp
namespace Go.Proofs.Ytgkegfgdpekehaa
open Go.RowKit Go.Acre Go.Acre.Dk Go.Maps

/-- what a file of the four reads as behind a crash -/
theorem kept_crash {i : Nat} {A B : List ByteArray} {D : Files} (h : Kept i A B D) (zs : List Int) {k : Nat} (hk : k < 4) (hki : k < i) :
    ∃ s : ByteArray, readD (crashD D zs) (nmk k) = (s, 0) ∧ syncedD (crashD D zs) (nmk k) = s.size ∧ (B.getD k e0).size ≤ s.size ∧ s.size ≤ (A.getD k e0).size ∧ (A.getD k e0).extract 0 s.size = s ∧
      readD (crashD (crashD D zs) zs) (nmk k) = (s, 0) := by
  have hle := h.le k hk
  have hg := h.there k hk hki
  obtain ⟨z, hz⟩ := crash_get (zs := zs) h.may.srt hg
  obtain ⟨y, hy⟩ := crash_get (zs := zs) (may_crash h.may zs).srt hz
  rw [cut_twice z y (by simpa using hle)] at hy
  obtain ⟨h1, h2, h3⟩ := cutE_synced z (f := ⟨nmk k, A.getD k e0, (B.getD k e0).size⟩) hle
  refine ⟨(cutE z ⟨nmk k, A.getD k e0, (B.getD k e0).size⟩).bytes, ?_, ?_, ?_, h2, ?_, ?_⟩
  · unfold readD; rw [hz]
  · unfold syncedD; rw [hz]; exact h1
  · simp only at h3; omega
  · rw [← h1]; rfl
  · unfold readD; rw [hy]

def strv (l : List ByteArray) : Array Value := (l.map Value.string).toArray
theorem strv_at {l : List ByteArray} {k : Nat} (h : k < l.length) : (strv l)[k]? = some (.string (l.getD k e0)) := by simp [strv, List.getD, h]
/-- the disk, the names, what was put, what was synced -/
def KSt (w0 w : World) (db nb n : Nat) (A B : List ByteArray) (D : Files) : Prop :=
  ∃ S, Has w S db 1099511627776 n D ∧ (∀ k, S k → w0.heap.size ≤ k) ∧ (∀ k, S k → k ≠ nb ∧ k ≠ nb + 1 ∧ k ≠ nb + 1 + 1) ∧ Upd (fun _ => False) w0 w ∧ w0.heap.size ≤ nb ∧
    w.heap[nb]? = some (.cells (strv nms) 9 (0, 0)) ∧ w.heap[nb + 1]? = some (.cells (strv A) 9 (0, 0)) ∧ w.heap[nb + 1 + 1]? = some (.cells (strv B) 9 (0, 0))
theorem KSt.upd {w0 w w' : World} {db nb n : Nat} {A B : List ByteArray} {D : Files} (h : KSt w0 w db nb n A B D) (hu : Upd (fun _ => False) w w') : KSt w0 w' db nb n A B D := by
  obtain ⟨S, h1, h2, h3, h4, h5, h6, h7, h8⟩ := h
  exact ⟨S, h1.upd hu (fun _ _ f => f), h2, h3, h4.trans hu (fun _ _ h => h), h5, hu.keep h6 (fun f => f), hu.keep h7 (fun f => f), hu.keep h8 (fun f => f)⟩
theorem KSt.fresh {w0 w : World} {db nb n : Nat} {A B : List ByteArray} {D : Files} (h : KSt w0 w db nb n A B D) : Upd (fun _ => False) w0 w := by
  obtain ⟨S, h1, h2, h3, h4, h5, h6, h7, h8⟩ := h
  exact h4
theorem KSt.dsk {w0 w : World} {db nb n : Nat} {A B : List ByteArray} {D : Files} (h : KSt w0 w db nb n A B D) : Dsk w0 w db 1099511627776 n D := by
  obtain ⟨S, h1, h2, h3, h4, h5, h6, h7, h8⟩ := h
  exact ⟨S, h1, h2, h4⟩
theorem KSt.step {w0 w w' : World} {db nb n m : Nat} {A B : List ByteArray} {D D' : Files} {S' S : Nat → Prop} (h : Has w S db 1099511627776 n D ∧ (∀ k, S k → w0.heap.size ≤ k) ∧ (∀ k, S k → k ≠ nb ∧ k ≠ nb + 1 ∧ k ≠ nb + 1 + 1) ∧ Upd (fun _ => False) w0 w ∧ w0.heap.size ≤ nb ∧
    w.heap[nb]? = some (.cells (strv nms) 9 (0, 0)) ∧ w.heap[nb + 1]? = some (.cells (strv A) 9 (0, 0)) ∧ w.heap[nb + 1 + 1]? = some (.cells (strv B) 9 (0, 0))) (g1 : Has w' S' db 1099511627776 m D') (g2 : ∀ k, S' k → S k ∨ w.heap.size ≤ k) (g3 : Upd S w w') : KSt w0 w' db nb m A B D' := by
  obtain ⟨h1, h2, h3, h4, h5, h6, h7, h8⟩ := h
  have l6 := lt_of_heap h6
  have l7 := lt_of_heap h7
  have l8 := lt_of_heap h8
  exact ⟨S', g1, fun k hk => (g2 k hk).elim (h2 k) (fun e => Nat.le_trans h4.size e), fun k hk => (g2 k hk).elim (h3 k) (fun e => by omega), Upd.fresh h4 g3 h2, h5,
    g3.keep h6 (fun e => (h3 _ e).1 rfl), g3.keep h7 (fun e => (h3 _ e).2.1 rfl), g3.keep h8 (fun e => (h3 _ e).2.2 rfl)⟩
theorem k_any {P : Program} {f : FuncId} {args : Array Value} {w0 w : World} {db nb n m : Nat} {A B : List ByteArray} {D D' : Files} {code : Nat} (h : KSt w0 w db nb n A B D) (hc : ∀ S, Has w S db 1099511627776 n D → Calls P f args w (Op S w db 1099511627776 m D' code)) :
    Calls P f args w fun e w' => e = .returned (.int .i64 (code : Nat)) ∧ KSt w0 w' db nb m A B D' := by
  obtain ⟨S, h⟩ := h
  refine (hc S h.1).mono ?_
  rintro e w' ⟨rfl, S', g1, g2, g3⟩
  exact ⟨rfl, KSt.step h g1 g2 g3⟩
def gd (l : List ByteArray) (k : Nat) : ByteArray := l.getD k e0
theorem KSt.cells {w0 w : World} {db nb n : Nat} {A B : List ByteArray} {D : Files} (h : KSt w0 w db nb n A B D) (ha : A.length = 4) (hb : B.length = 4) {q : Nat} (hq : q < 4) :
    w.cell? ⟨nb, q, none⟩ = some (.string (nmk q)) ∧ w.cell? ⟨nb + 1, q, none⟩ = some (.string (gd A q)) ∧ w.cell? ⟨nb + 1 + 1, q, none⟩ = some (.string (gd B q)) ∧ w.frozen? ⟨nb + 1, q, none⟩ = false ∧ w.frozen? ⟨nb + 1 + 1, q, none⟩ = false := by
  obtain ⟨S, h1, h2, h3, h4, h5, h6, h7, h8⟩ := h
  exact ⟨(cell_of_heap h6 q).trans (strv_at (l := nms) hq), (cell_of_heap h7 q).trans (strv_at (by omega)), (cell_of_heap h8 q).trans (strv_at (by omega)), frozen_of_heap h7 q none, frozen_of_heap h8 q none⟩
theorem strv_set (l : List ByteArray) (k : Nat) (s : ByteArray) : (strv l).setIfInBounds k (.string s) = strv (l.set k s) := by simp [strv]
theorem KSt.setA {w0 w : World} {db nb n : Nat} {A B : List ByteArray} {D : Files} (h : KSt w0 w db nb n A B D) (q : Nat) (s : ByteArray) : KSt w0 (w.setCell ⟨nb + 1, q, none⟩ (.string s)) db nb n (A.set q s) B D := by
  obtain ⟨S, h1, h2, h3, h4, h5, h6, h7, h8⟩ := h
  have hu : Upd (fun i => i = nb + 1) w (w.setCell ⟨nb + 1, q, none⟩ (.string s)) := Upd.setCell (Upd.refl (fun i => i = nb + 1) w) (p := ⟨nb + 1, q, none⟩) (fun _ => rfl) _
  refine ⟨S, h1.upd hu (fun k hk e => (h3 k hk).2.1 e), h2, h3, h4.trans hu (fun i hi e => by omega), h5, hu.keep h6 (by omega), ?_, hu.keep h8 (by omega)⟩
  have := heap_setCell (o := q) h7 (.string s)
  rw [strv_set] at this
  exact this
theorem KSt.setB {w0 w : World} {db nb n : Nat} {A B : List ByteArray} {D : Files} (h : KSt w0 w db nb n A B D) (q : Nat) (s : ByteArray) : KSt w0 (w.setCell ⟨nb + 1 + 1, q, none⟩ (.string s)) db nb n A (B.set q s) D := by
  obtain ⟨S, h1, h2, h3, h4, h5, h6, h7, h8⟩ := h
  have hu : Upd (fun i => i = nb + 1 + 1) w (w.setCell ⟨nb + 1 + 1, q, none⟩ (.string s)) := Upd.setCell (Upd.refl (fun i => i = nb + 1 + 1) w) (p := ⟨nb + 1 + 1, q, none⟩) (fun _ => rfl) _
  refine ⟨S, h1.upd hu (fun k hk e => (h3 k hk).2.2 e), h2, h3, h4.trans hu (fun i hi e => by omega), h5, hu.keep h6 (by omega), hu.keep h7 (by omega), ?_⟩
  have := heap_setCell (o := q) h8 (.string s)
  rw [strv_set] at this
  exact this
theorem KSt.make {w0 w : World} {db : Nat} (h : Dsk w0 w db 1099511627776 0 []) :
    KSt w0 (((w.alloc (.cells #[.string ⟨#[97]⟩, .string ⟨#[98]⟩, .string ⟨#[97, 98]⟩, .string ⟨#[99]⟩] 9)).alloc (.cells #[.string ⟨#[]⟩, .string ⟨#[]⟩, .string ⟨#[]⟩, .string ⟨#[]⟩] 9)).alloc (.cells #[.string ⟨#[]⟩, .string ⟨#[]⟩, .string ⟨#[]⟩, .string ⟨#[]⟩] 9)) db w.heap.size 0 [e0, e0, e0, e0] [e0, e0, e0, e0] [] := by
  obtain ⟨S, g1, g2, g3⟩ := h
  have hb := has_below g1
  have u1 : Upd (fun _ => False) w (w.alloc (.cells #[.string ⟨#[97]⟩, .string ⟨#[98]⟩, .string ⟨#[97, 98]⟩, .string ⟨#[99]⟩] 9)) := (Upd.refl _ w).alloc _
  have a1 := heap_alloc (w := w) (.cells #[.string ⟨#[97]⟩, .string ⟨#[98]⟩, .string ⟨#[97, 98]⟩, .string ⟨#[99]⟩] 9)
  have z1 : (w.alloc (.cells #[.string ⟨#[97]⟩, .string ⟨#[98]⟩, .string ⟨#[97, 98]⟩, .string ⟨#[99]⟩] 9)).heap.size = w.heap.size + 1 := by simp
  generalize w.alloc (.cells #[.string ⟨#[97]⟩, .string ⟨#[98]⟩, .string ⟨#[97, 98]⟩, .string ⟨#[99]⟩] 9) = wa at *
  have u2 : Upd (fun _ => False) wa (wa.alloc (.cells #[.string ⟨#[]⟩, .string ⟨#[]⟩, .string ⟨#[]⟩, .string ⟨#[]⟩] 9)) := (Upd.refl _ wa).alloc _
  have a2 := heap_alloc (w := wa) (.cells #[.string ⟨#[]⟩, .string ⟨#[]⟩, .string ⟨#[]⟩, .string ⟨#[]⟩] 9)
  have z2 : (wa.alloc (.cells #[.string ⟨#[]⟩, .string ⟨#[]⟩, .string ⟨#[]⟩, .string ⟨#[]⟩] 9)).heap.size = wa.heap.size + 1 := by simp
  generalize wa.alloc (.cells #[.string ⟨#[]⟩, .string ⟨#[]⟩, .string ⟨#[]⟩, .string ⟨#[]⟩] 9) = wb at *
  have u3 : Upd (fun _ => False) wb (wb.alloc (.cells #[.string ⟨#[]⟩, .string ⟨#[]⟩, .string ⟨#[]⟩, .string ⟨#[]⟩] 9)) := (Upd.refl _ wb).alloc _
  have a3 := heap_alloc (w := wb) (.cells #[.string ⟨#[]⟩, .string ⟨#[]⟩, .string ⟨#[]⟩, .string ⟨#[]⟩] 9)
  generalize wb.alloc (.cells #[.string ⟨#[]⟩, .string ⟨#[]⟩, .string ⟨#[]⟩, .string ⟨#[]⟩] 9) = wc at *
  have u : Upd (fun _ => False) w wc := (u1.trans u2 (fun _ _ h => h)).trans u3 (fun _ _ h => h)
  rw [z1] at a2
  rw [z2, z1] at a3
  exact ⟨S, g1.upd u (fun _ _ f => f), g2, fun k hk => by have := hb k hk; omega, g3.trans u (fun _ _ h => h), g3.size, u3.keep (u2.keep a1 (fun f => f)) (fun f => f), u3.keep a2 (fun f => f), a3⟩
theorem nmk_small {k : Nat} (h : k < 4) : (nmk k).size ≤ maxLen := by
  have := nmk_ok h
  simp only [nameOk, decide_eq_true_eq] at this
  unfold maxLen
  omega
theorem made4 (u : World) : (Instr.makeSlice 36 (.int .i64 4) (.int .i64 4)).run Try.prog u = .ok (.slice (some ⟨u.heap.size, 0, none⟩) 4 4) (u.alloc (.cells #[.string ⟨#[]⟩, .string ⟨#[]⟩, .string ⟨#[]⟩, .string ⟨#[]⟩] 9)) := by kernel_rfl
theorem k_crash {w0 w : World} {db nb n : Nat} {A B : List ByteArray} {D : Files} (h : KSt w0 w db nb n A B D) (a : Option Addr) (kcap : Nat) (zs : List Int) (kl : Nat) (hkl : kl = zs.length) (hz : IntsAt .i64 w0 (.slice a kl kcap) zs)
    (hzw : ∀ z ∈ zs, -9223372036854775808 ≤ z ∧ z ≤ 9223372036854775807) (hn : n ≤ 1000000) (hm : May 1099511627776 D) :
    Calls Try.prog 46 #[.pointer (some ⟨db, 0, none⟩), .slice a kl kcap] w fun e w' => e = .returned (.tuple #[]) ∧ KSt w0 w' db nb n A B (crashD D zs) := by
  obtain ⟨S, h⟩ := h
  refine (crash_any h.1 a kcap zs kl hkl (IntsAt.upd0 hz h.2.2.2.1) hzw (fun g o hne e hs => ?_) hn (by have := hm.fits; omega)).mono ?_
  · subst e hkl
    obtain ⟨g', o', e', hc⟩ := hz.cell (i := 0) (List.length_pos_iff.2 hne)
    simp only [Option.some.injEq, Addr.mk.injEq] at e'
    obtain ⟨rfl, rfl, _⟩ := e'
    have h1 := h.2.1 g hs
    have h2 : w0.heap[g]? = none := Array.getElem?_eq_none h1
    simp [World.cell?, h2] at hc
  · rintro e w' ⟨rfl, h4, h5⟩
    exact ⟨rfl, KSt.step h h4 (fun k hk => .inl hk) h5⟩
/-- .. and a copy beside it -/
def KC (w0 w : World) (db nb d2 n : Nat) (A B : List ByteArray) (D D2 : Files) : Prop :=
  ∃ S S2, (Has w S db 1099511627776 n D ∧ (∀ k, S k → w0.heap.size ≤ k) ∧ (∀ k, S k → k ≠ nb ∧ k ≠ nb + 1 ∧ k ≠ nb + 1 + 1) ∧ Upd (fun _ => False) w0 w ∧ w0.heap.size ≤ nb ∧
    w.heap[nb]? = some (.cells (strv nms) 9 (0, 0)) ∧ w.heap[nb + 1]? = some (.cells (strv A) 9 (0, 0)) ∧ w.heap[nb + 1 + 1]? = some (.cells (strv B) 9 (0, 0))) ∧
    Has w S2 d2 1099511627776 n D2 ∧ (∀ k, S2 k → w0.heap.size ≤ k) ∧ (∀ k, S2 k → ¬ S k)
theorem KC.left {w0 w : World} {db nb d2 n : Nat} {A B : List ByteArray} {D D2 : Files} (h : KC w0 w db nb d2 n A B D D2) : KSt w0 w db nb n A B D := by
  obtain ⟨S, S2, h1, h2, h3, h4⟩ := h
  exact ⟨S, h1⟩
theorem KC.right {w0 w : World} {db nb d2 n : Nat} {A B : List ByteArray} {D D2 : Files} (h : KC w0 w db nb d2 n A B D D2) : Dsk w0 w d2 1099511627776 n D2 := by
  obtain ⟨S, S2, h1, h2, h3, h4⟩ := h
  exact ⟨S2, h2, h3, h1.2.2.2.1⟩
theorem k_copy {w0 w : World} {db nb n : Nat} {A B : List ByteArray} {D : Files} (h : KSt w0 w db nb n A B D) (hn : n ≤ 1000000) :
    Calls Try.prog 49 #[.pointer (some ⟨db, 0, none⟩)] w fun e w' => ∃ d2, e = .returned (.pointer (some ⟨d2, 0, none⟩)) ∧ KC w0 w' db nb d2 n A B D D := by
  obtain ⟨S, h1, h2, h3, h4, h5, h6, h7, h8⟩ := h
  refine (copy_any h1 hn).mono ?_
  rintro e w' ⟨d2, S2, rfl, g1, g2, g3⟩
  have hb := has_below h1
  exact ⟨d2, rfl, S, S2, ⟨h1.upd g3 (fun _ _ f => f), h2, h3, h4.trans g3 (fun _ _ h => h), h5, g3.keep h6 (fun f => f), g3.keep h7 (fun f => f), g3.keep h8 (fun f => f)⟩, g1, fun k hk => Nat.le_trans h4.size (g2 k hk),
    fun k hk hs => by have := hb k hs; have := g2 k hk; omega⟩
theorem kc_crash {w0 w : World} {db nb d2 n : Nat} {A B : List ByteArray} {D D2 : Files} (h : KC w0 w db nb d2 n A B D D2) (a : Option Addr) (kcap : Nat) (zs : List Int) (kl : Nat) (hkl : kl = zs.length) (hz : IntsAt .i64 w0 (.slice a kl kcap) zs)
    (hzw : ∀ z ∈ zs, -9223372036854775808 ≤ z ∧ z ≤ 9223372036854775807) (hn : n ≤ 1000000) (hm : May 1099511627776 D) :
    Calls Try.prog 46 #[.pointer (some ⟨db, 0, none⟩), .slice a kl kcap] w fun e w' => e = .returned (.tuple #[]) ∧ KC w0 w' db nb d2 n A B (crashD D zs) D2 := by
  obtain ⟨S, S2, h, h2, h3, h4⟩ := h
  refine (crash_any h.1 a kcap zs kl hkl (IntsAt.upd0 hz h.2.2.2.1) hzw (fun g o hne e hs => ?_) hn (by have := hm.fits; omega)).mono ?_
  · subst e hkl
    obtain ⟨g', o', e', hc⟩ := hz.cell (i := 0) (List.length_pos_iff.2 hne)
    simp only [Option.some.injEq, Addr.mk.injEq] at e'
    obtain ⟨rfl, rfl, _⟩ := e'
    have h1 := h.2.1 g hs
    have h2 : w0.heap[g]? = none := Array.getElem?_eq_none h1
    simp [World.cell?, h2] at hc
  · rintro e w' ⟨rfl, g1, g3⟩
    obtain ⟨k1, k2, k3, k4, k5, k6, k7, k8⟩ := h
    exact ⟨rfl, S, S2, ⟨g1, k2, k3, Upd.fresh k4 g3 k2, k5, g3.keep k6 (fun e => (k3 _ e).1 rfl), g3.keep k7 (fun e => (k3 _ e).2.1 rfl), g3.keep k8 (fun e => (k3 _ e).2.2 rfl)⟩, h2.upd g3 (fun k hk hs => h4 k hk hs), h3, h4⟩
theorem toList_same (s : ByteArray) : (s.toList == s.toList) = true := by simp
set_option maxHeartbeats 4000000 in
set_option maxRecDepth 100000 in
theorem keeps_any (a : Option Addr) (len cap : Nat) (ss : List ByteArray) (sy : Int) (ka : Option Addr) (kl kc : Nat) (zs : List Int) (w : World) (hs : StrsAt w (.slice a len cap) ss ∧ len = ss.length ∧ ∀ s ∈ ss, s.size ≤ 1048576)
    (hsy : 0 ≤ sy ∧ sy < 18446744073709551616) (hz : IntsAt .i64 w (.slice ka kl kc) zs ∧ kl = zs.length ∧ ∀ z ∈ zs, -9223372036854775808 ≤ z ∧ z ≤ 9223372036854775807) :
    Calls Try.prog 13 #[.slice a len cap, .int .u64 sy, .slice ka kl kc] w (Fresh true w) := by
  have HS := Lib.hid hs
  have HZ := Lib.hid hz
  have hlen : len ≤ 9223372036854775807 := by have := hs.1.bound; have := hs.2.1; unfold maxLen at *; omega
  clear hs hz
  go_enter Try.func13, Try.ntmps13
  go_wp2_with fail
  refine (dworks_any _).mono ?_
  rintro e w1 ⟨rfl, hu1⟩
  go_wp2_with fail
  refine (d_new 1099511627776 w _ hu1 (by decide)).mono ?_
  rintro e w2 ⟨db, rfl, h2⟩
  rw [show (1099511627776 : Int).toNat = 1099511627776 from rfl] at h2
  clear hu1
  have hmk := made4
  have hK := KSt.make h2
  go_upto_region 7 with fail
  clear h2 hmk
  generalize ((w2.alloc (.cells #[.string ⟨#[97]⟩, .string ⟨#[98]⟩, .string ⟨#[97, 98]⟩, .string ⟨#[99]⟩] 9)).alloc (.cells #[.string ⟨#[]⟩, .string ⟨#[]⟩, .string ⟨#[]⟩, .string ⟨#[]⟩] 9)).alloc (.cells #[.string ⟨#[]⟩, .string ⟨#[]⟩, .string ⟨#[]⟩, .string ⟨#[]⟩] 9) = w3 at *
  generalize w2.heap.size = nb at *
  go_upto_block 0 with fail
  go_cut [11] (fun i wx => ∃ (k : Nat) (A B : List ByteArray) (D : Files), i = .int .i64 k ∧ k ≤ len ∧ k ≤ 60 ∧ KSt w wx db nb k A B D ∧ Hid (Kept k A B D) ∧ ∀ j : Nat, j < 4 → j < len → j < k)
  case first =>
   go_wp2_with fail
   go_loopw [11] (fun i wr => ∃ (k : Nat) (A B : List ByteArray) (D : Files), i = .int .i64 k ∧ k ≤ len ∧ k ≤ 60 ∧ KSt w wr db nb k A B D ∧ Hid (Kept k A B D)) (fun i _ => len - (intOf i).toNat)
   case atStart => exact ⟨0, _, _, _, rfl, by omega, by omega, hK, kept0⟩
   case round =>
     obtain ⟨k, A, B, D, rfl, hk, hk60, h, HK⟩ := hrel
     clear hK
     by_cases hgo : k < len ∧ k < 60
     · obtain ⟨hg1, hg2⟩ := hgo
       have hks : k < ss.length := by rw [← HS.out.2.1]; exact hg1
       obtain ⟨g, o, rfl, p1⟩ := HS.out.1.cell hks
       have hsz := HS.out.2.2 ss[k] (List.getElem_mem hks)
       have p2 := cell_upd h.fresh p1 (fun f => f)
       generalize ss[k] = s at *
       have PP := Lib.hid p1
       have hq4 : k % 4 < 4 := Nat.mod_lt _ (by omega)
       have hm : (k : Int).tmod 4 = ((k % 4 : Nat) : Int) := by rw [Int.tmod_eq_emod_of_nonneg (by omega)]; rfl
       have HAP := Lib.hid (kept_append HK.out hsz hg2)
       obtain ⟨q, hq⟩ : ∃ q, q = k % 4 := ⟨_, rfl⟩
       rw [← hq] at hq4 hm HAP
       have HQ := Lib.hid hq
       obtain ⟨n1, n2, n3, n4, n5⟩ := h.cells HK.out.la HK.out.lb hq4
       clear hq p1 hks
       have hq0 : (q : Int) < 4 := by omega
       go_wp2_with fail
       go_still_tail 9, (by kernel_rfl)
       have h1 := h.upd (Upd.refl (fun _ => False) wr).drew
       have p3 := cell_upd (Upd.refl (fun _ => False) wr).drew p2 (fun f => f)
       clear n1 n2 n3 n4 n5 p2 h
       go_wp2_with fail
       generalize wr.drew = wd at *
       refine (k_any h1 fun S hS => append_any hS (nmk q) s (nmk_small hq4) (by omega) (by unfold maxLen; omega)).mono ?_
       rintro e w4 ⟨rfl, h4⟩
       rw [HAP.out.1]
       have HK4 := Lib.hid HAP.out.2
       generalize (appendD 1099511627776 D (nmk q) s).1 = D4 at *
       clear h1
       have p4 := cell_upd h4.fresh (show w.cell? ⟨g, o + k, none⟩ = some (.string s) from PP.out) (fun f => f)
       have hA := HK.out.la
       have hB := HK.out.lb
       obtain ⟨n1, n2, n3, n4, n5⟩ := h4.cells hA hB hq4
       have hsA : (gd A q).size ≤ 62914560 := Nat.le_trans (HK.out.small q hq4) (by omega)
       have hcat : (gd A q ++ s).size = (gd A q).size + s.size := ByteArray.size_append
       have hadd : ∀ u : World, (Op.stringOp .add (gd A q) s).run Try.prog u = .ok (.string (gd A q ++ s)) u := fun u => run_string_add_sum u _ _ (by omega)
       have hnot : ¬ ((gd A q).size + s.size > 9223372036854775807) := by omega
       clear p3
       go_wp2_with fail
       go_still_tail 12, (by kernel_rfl)
       have h5 := (h4.setA q (gd A q ++ s)).upd ((Upd.refl (fun _ => False) _).drew)
       have HK5 : Hid (Kept (k + 1) (A.set q (gd A q ++ s)) B D4) := HK4.out
       have hA5 := HK5.out.la
       obtain ⟨n1, n2, n3, n4, n5⟩ := h5.cells hA5 hB hq4
       have HSY := Lib.hid (kept_sync HK5.out)
       rw [← HQ.out] at HSY
       clear h4 p4 hadd hnot hcat hsA
       generalize A.set q (gd A q ++ s) = A5 at *
       go_wp2_with fail
       · clear n1 n2 n3 n4 n5
         generalize (w4.setCell ⟨nb + 1, q, none⟩ (.string (gd A q ++ s))).drew = w5 at *
         refine (k_any h5 fun S hS => sync_any hS (nmk q) (nmk_small hq4)).mono ?_
         rintro e w6 ⟨rfl, h6⟩
         rw [HSY.out.1]
         have HK6 : Hid (Kept (k + 1) A5 (B.set q (gd A5 q)) (syncD D4 (nmk q)).1) := HSY.out.2
         generalize (syncD D4 (nmk q)).1 = D6 at *
         obtain ⟨n1, n2, n3, n4, n5⟩ := h6.cells hA5 hB hq4
         have h7 := h6.setB q (gd A5 q)
         clear HSY h5 h6
         go_wp2_with fail
         exact ⟨⟨k + 1, _, _, _, by go_num, by omega, by omega, h7, HK6⟩, by simp [intOf]; omega⟩
       · exact ⟨⟨k + 1, _, _, _, by go_num, by omega, by omega, h5, HK5⟩, by simp [intOf]; omega⟩
     · have hge : ∀ j : Nat, j < 4 → j < len → j < k := by intro j h1 h2; omega
       by_cases hlt : (k : Int) < (len : Int)
       · have hg100 : ¬ (k : Int) < 60 := by omega
         go_wp2_with fail
         go_meet
         case rel => exact ⟨k, A, B, D, rfl, hk, hk60, h, HK, hge⟩
       · go_wp2_with fail
         go_meet
         case rel => exact ⟨k, A, B, D, rfl, hk, hk60, h, HK, hge⟩
  case rest =>
   obtain ⟨k, A, B, D, rfl, hk, hk60, h, HK, hge⟩ := hcut
   clear hK
   have hzi := HZ.out.1
   have hkl := HZ.out.2.1
   have hzb := HZ.out.2.2
   have HZI := Lib.hid hzi
   have HKL := Lib.hid hkl
   have HZB := Lib.hid hzb
   clear hzi hkl hzb
   go_wp2_with fail
   refine (d_list h.dsk _ (by omega)).mono ?_
   rintro e w4 ⟨v1, rfl, o1, hu4⟩
   obtain ⟨a1, cap1, rfl⟩ := (StrsAt.of_own o1).slice
   have h4 := h.upd hu4
   clear h o1 hu4
   go_wp2_with fail
   refine (k_crash h4 ka kc zs kl HKL.out HZI.out HZB.out (by omega) HK.out.may).mono ?_
   rintro e w5 ⟨rfl, h5⟩
   clear h4
   go_wp2_with fail
   refine (d_list h5.dsk _ (by omega)).mono ?_
   rintro e w6 ⟨v2, rfl, o2, hu6⟩
   rw [crash_list] at o2
   obtain ⟨a2, cap2, rfl⟩ := (StrsAt.of_own o2).slice
   have h6 := h5.upd hu6
   clear h5 o2 hu6
   generalize (listD D ⟨#[]⟩).length = ln at *
   have hA := HK.out.la
   have hB := HK.out.lb
   go_upto_block 2 with fail
   go_cut [15] (fun i wx => ∃ (j : Nat), i = .int .i64 j ∧ w6 = wx)
   case first =>
     go_wp2_with fail
     go_loop [15] (fun i => ∃ (j : Nat), i = .int .i64 j ∧ j ≤ 4) (fun i => 4 - (intOf i).toNat)
     case atStart => exact ⟨0, rfl, by omega⟩
     case round =>
       obtain ⟨j, rfl, hj⟩ := hrel
       by_cases hj4 : j < 4
       · by_cases hjl : j < len
         · obtain ⟨s, r1, r2, r3, r4, r5, r6⟩ := kept_crash HK.out zs hj4 (hge j hj4 hjl)
           have R3 : (gd B j).size ≤ s.size := r3
           have R4 : s.size ≤ (gd A j).size := r4
           have R5 : (gd A j).extract 0 s.size = s := r5
           have hsm : (gd A j).size ≤ 62914560 := Nat.le_trans (HK.out.small j hj4) (by omega)
           obtain ⟨n1, n2, n3, n4, n5⟩ := h6.cells hA hB hj4
           have hl := toList_same s
           clear r3 r4 r5 r6
           have H1 := Lib.hid r1
           have H2 := Lib.hid r2
           have H5 := Lib.hid R5
           clear r1 r2 R5
           go_wp2_with fail
           refine (d_read h6.dsk (nmk j) (nmk_small hj4)).mono ?_
           rintro e w7 ⟨rfl, rfl⟩
           rw [H1.out]
           have R5 := H5.out
           go_wp2_with fail
           refine (d_synced h6.dsk (nmk j) (nmk_small hj4)).mono ?_
           rintro e w7 ⟨rfl, rfl⟩
           rw [H2.out]
           go_wp2_with fail
           exact ⟨⟨j + 1, by go_num, by omega⟩, by simp [intOf]; omega⟩
         · have hjl2 : ¬ (j : Int) < (len : Int) := by omega
           go_wp2_with fail
           go_meet
           case rel => exact ⟨j, rfl, rfl⟩
       · have hj42 : ¬ (j : Int) < 4 := by omega
         go_wp2_with fail
         go_meet
         case rel => exact ⟨j, rfl, rfl⟩
   case rest =>
     obtain ⟨j0, rfl, rfl⟩ := hcut
     go_wp2_with fail
     refine (k_copy h6 (by omega)).mono ?_
     rintro e w7 ⟨d2, rfl, h7⟩
     clear h6
     go_wp2_with fail
     refine (kc_crash h7 ka kc zs kl HKL.out HZI.out HZB.out (by omega) (may_crash HK.out.may zs)).mono ?_
     rintro e w8 ⟨rfl, h8⟩
     clear h7
     go_wp2_with fail
     go_loop [19] (fun i => ∃ (j : Nat), i = .int .i64 j ∧ j ≤ 4) (fun i => 4 - (intOf i).toNat)
     case atStart => exact ⟨0, rfl, by omega⟩
     case round =>
       obtain ⟨j, rfl, hj⟩ := hrel
       by_cases hj4 : j < 4
       · by_cases hjl : j < len
         · obtain ⟨s, r1, r2, r3, r4, r5, r6⟩ := kept_crash HK.out zs hj4 (hge j hj4 hjl)
           obtain ⟨n1, n2, n3, n4, n5⟩ := h8.left.cells hA hB hj4
           have hl := toList_same s
           have H1 := Lib.hid r1
           have H6 := Lib.hid r6
           clear r1 r2 r3 r4 r5 r6
           go_wp2_with fail
           refine (d_read h8.left.dsk (nmk j) (nmk_small hj4)).mono ?_
           rintro e w9 ⟨rfl, rfl⟩
           rw [H6.out]
           go_wp2_with fail
           refine (d_read h8.right (nmk j) (nmk_small hj4)).mono ?_
           rintro e w9 ⟨rfl, rfl⟩
           rw [H1.out]
           go_wp2_with fail
           exact ⟨⟨j + 1, by go_num, by omega⟩, by simp [intOf]; omega⟩
         · have hjl2 : ¬ (j : Int) < (len : Int) := by omega
           go_wp2_with fail
           go_ret
           exact ⟨rfl, h8.left.fresh⟩
       · have hj42 : ¬ (j : Int) < 4 := by omega
         go_wp2_with fail
         go_ret
         exact ⟨rfl, h8.left.fresh⟩
theorem keeps_all (a : Option Addr) (len cap : Nat) (ss : List ByteArray) (sy : Int) (ka : Option Addr) (kl kc : Nat) (zs : List Int) (w : World) (hs : StrsAt w (.slice a len cap) ss ∧ len = ss.length ∧ ∀ s ∈ ss, s.size ≤ 1048576)
    (hsy : (Lit.int .u64 sy).wf = true) (hz : IntsAt .i64 w (.slice ka kl kc) zs ∧ kl = zs.length ∧ ∀ z ∈ zs, (Lit.int .i64 z).wf = true) :
    Calls Try.prog 13 #[.slice a len cap, .int .u64 sy, .slice ka kl kc] w (Fresh true w) :=
  keeps_any a len cap ss sy ka kl kc zs w hs (by simp [Lit.wf, IntKind.min, IntKind.max, IntKind.signed, IntKind.bits] at hsy; omega) ⟨hz.1, hz.2.1, fun z h => int_of_wf (hz.2.2 z h)⟩
end Go.Proofs.Ytgkegfgdpekehaa
