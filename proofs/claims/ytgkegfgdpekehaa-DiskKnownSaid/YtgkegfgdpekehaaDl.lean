/- The walk of the law DiskKnown; disks that are none. -/
import Derived.Test.YtgkegfgdpekehaaDk
import Derived.Test.YtgkegfgdpekehaaO
namespace Go.Proofs.Ytgkegfgdpekehaa
open Go.RowKit Go.Acre Go.Acre.Dk Go.Maps

/-- a disk that is none: nil, or a struct without files -/
def Gone (p : Value) (w : World) : Prop := p = .pointer none ∨ ∃ b, p = .pointer (some ⟨b, 0, none⟩) ∧ w.cell? ⟨b, 2, none⟩ = some (.map none)
theorem Gone.upd {p : Value} {w w' : World} (h : Gone p w) (hu : Upd (fun _ => False) w w') : Gone p w' := by
  rcases h with h | ⟨b, h, hc⟩
  · exact .inl h
  · exact .inr ⟨b, h, cell_upd hu hc (fun f => f)⟩
theorem none_gone {p : Value} {w : World} (h : Gone p w) : Calls Try.prog 80 #[p] w fun e w' => e = .returned (.bool true) ∧ w = w' := by
  rcases h with rfl | ⟨b, rfl, hc⟩
  · exact none_nil w
  · exact none_empty b w hc
theorem of_gone {p : Value} {w : World} (h : Gone p w) (k : ByteArray) : Calls Try.prog 82 #[p, .string k] w fun e w' => e = .returned (.tuple #[.pointer none, .int .i64 1]) ∧ w = w' := by
  have HG := Lib.hid h
  clear h
  go_enter Try.func82, Try.ntmps82
  go_wp2_with fail
  refine (none_gone HG.out).mono ?_
  rintro e w' ⟨rfl, rfl⟩
  go_wp2_with fail
  go_ret2
  exact ⟨rfl, rfl⟩
theorem gone_sync {p : Value} {w : World} (h : Gone p w) (k : ByteArray) : Calls Try.prog 44 #[p, .string k] w fun e w' => e = .returned (.int .i64 1) ∧ w = w' := by
  have HG := Lib.hid h
  clear h
  go_enter Try.func44, Try.ntmps44
  go_wp2_with fail
  refine (of_gone HG.out _).mono ?_
  rintro e w' ⟨rfl, rfl⟩
  go_wp2_with fail
  go_ret
  exact ⟨rfl, rfl⟩
theorem gone_read {p : Value} {w : World} (h : Gone p w) (k : ByteArray) : Calls Try.prog 47 #[p, .string k] w fun e w' => e = .returned (.tuple #[.string ⟨#[]⟩, .int .i64 1]) ∧ w = w' := by
  have HG := Lib.hid h
  clear h
  go_enter Try.func47, Try.ntmps47
  go_wp2_with fail
  refine (of_gone HG.out _).mono ?_
  rintro e w' ⟨rfl, rfl⟩
  go_wp2_with fail
  go_ret2
  exact ⟨rfl, rfl⟩
theorem gone_synced {p : Value} {w : World} (h : Gone p w) (k : ByteArray) : Calls Try.prog 48 #[p, .string k] w fun e w' => e = .returned (.int .i64 0) ∧ w = w' := by
  have HG := Lib.hid h
  clear h
  go_enter Try.func48, Try.ntmps48
  go_wp2_with fail
  refine (of_gone HG.out _).mono ?_
  rintro e w' ⟨rfl, rfl⟩
  go_wp2_with fail
  go_ret
  exact ⟨rfl, rfl⟩
theorem gone_rename {p : Value} {w : World} (h : Gone p w) (k c : ByteArray) : Calls Try.prog 50 #[p, .string k, .string c] w fun e w' => e = .returned (.int .i64 1) ∧ w = w' := by
  have HG := Lib.hid h
  clear h
  go_enter Try.func50, Try.ntmps50
  go_wp2_with fail
  refine (of_gone HG.out _).mono ?_
  rintro e w' ⟨rfl, rfl⟩
  go_wp2_with fail
  go_ret
  exact ⟨rfl, rfl⟩
theorem gone_remove {p : Value} {w : World} (h : Gone p w) (k : ByteArray) : Calls Try.prog 58 #[p, .string k] w fun e w' => e = .returned (.int .i64 1) ∧ w = w' := by
  have HG := Lib.hid h
  clear h
  go_enter Try.func58, Try.ntmps58
  go_wp2_with fail
  refine (of_gone HG.out _).mono ?_
  rintro e w' ⟨rfl, rfl⟩
  go_wp2_with fail
  go_ret
  exact ⟨rfl, rfl⟩
theorem gone_append {p : Value} {w : World} (h : Gone p w) (k c : ByteArray) : Calls Try.prog 43 #[p, .string k, .string c] w fun e w' => e = .returned (.int .i64 1) ∧ w = w' := by
  have HG := Lib.hid h
  clear h
  go_enter Try.func43, Try.ntmps43
  go_wp2_with fail
  refine (none_gone HG.out).mono ?_
  rintro e w' ⟨rfl, rfl⟩
  go_wp2_with fail
  go_ret
  exact ⟨rfl, rfl⟩
theorem gone_free {p : Value} {w : World} (h : Gone p w)  : Calls Try.prog 54 #[p] w fun e w' => e = .returned (.int .i64 0) ∧ w = w' := by
  have HG := Lib.hid h
  clear h
  go_enter Try.func54, Try.ntmps54
  go_wp2_with fail
  refine (none_gone HG.out).mono ?_
  rintro e w' ⟨rfl, rfl⟩
  go_wp2_with fail
  go_ret
  exact ⟨rfl, rfl⟩
theorem gone_copy {p : Value} {w : World} (h : Gone p w)  : Calls Try.prog 49 #[p] w fun e w' => e = .returned (.pointer none) ∧ w = w' := by
  have HG := Lib.hid h
  clear h
  go_enter Try.func49, Try.ntmps49
  go_wp2_with fail
  refine (none_gone HG.out).mono ?_
  rintro e w' ⟨rfl, rfl⟩
  go_wp2_with fail
  go_ret
  exact ⟨rfl, rfl⟩
theorem gone_list {p : Value} {w : World} (h : Gone p w) (k : ByteArray) : Calls Try.prog 45 #[p, .string k] w fun e w' => e = .returned (.slice none 0 0) ∧ Upd (fun _ => False) w w' := by
  have hu : Upd (fun _ => False) w (w.alloc (.cells #[.string k] 9)) := (Upd.refl _ w).alloc _
  have HG := Lib.hid (h.upd hu)
  have HU := Lib.hid hu
  clear h hu
  go_enter Try.func45, Try.ntmps45
  go_wp2_with fail
  refine (none_gone HG.out).mono ?_
  rintro e w' ⟨rfl, rfl⟩
  go_wp2_with fail
  go_ret
  exact ⟨rfl, HU.out⟩
theorem gone_crash {p : Value} {w : World} (h : Gone p w) (v : Value) : Calls Try.prog 46 #[p, v] w fun e w' => e = .returned (.tuple #[]) ∧ Upd (fun _ => False) w w' := by
  have HG := Lib.hid h
  clear h
  go_enter Try.func46, Try.ntmps46
  go_wp2_with fail
  refine (gone_list HG.out _).mono ?_
  rintro e w1 ⟨rfl, hu⟩
  go_wp2_with fail
  go_loop [12] (fun i => i = .int .i64 0) (fun _ => 0)
  case atStart => rfl
  case round =>
    obtain rfl := hrel
    go_wp2_with fail
    go_end0
    exact ⟨rfl, hu⟩

/-- a disk, and beside it a disk that is none -/
def Dsk2 (w0 : World) (eb : Nat) (w : World) (db room n : Nat) (D : Files) : Prop :=
  ∃ S, Has w S db room n D ∧ (∀ k, S k → w0.heap.size ≤ k) ∧ Upd (fun _ => False) w0 w ∧ ¬ S eb ∧ eb < w.heap.size ∧ w.cell? ⟨eb, 2, none⟩ = some (.map none)
theorem Dsk2.upd {w0 w w' : World} {eb db room n : Nat} {D : Files} (h : Dsk2 w0 eb w db room n D) (hu : Upd (fun _ => False) w w') : Dsk2 w0 eb w' db room n D := by
  obtain ⟨S, h1, h2, h3, h4, h5, h6⟩ := h
  exact ⟨S, h1.upd hu (fun _ _ f => f), h2, h3.trans hu (fun _ _ h => h), h4, Nat.lt_of_lt_of_le h5 hu.size, cell_upd hu h6 (fun f => f)⟩
theorem Dsk2.gone {w0 w : World} {eb db room n : Nat} {D : Files} (h : Dsk2 w0 eb w db room n D) : Gone (.pointer (some ⟨eb, 0, none⟩)) w := by
  obtain ⟨S, h1, h2, h3, h4, h5, h6⟩ := h
  exact .inr ⟨eb, rfl, h6⟩
theorem Dsk2.fresh {w0 w : World} {eb db room n : Nat} {D : Files} (h : Dsk2 w0 eb w db room n D) : Upd (fun _ => False) w0 w := by
  obtain ⟨S, h1, h2, h3, _⟩ := h
  exact h3
theorem Dsk2.make {w0 w w' : World} {eb db room n : Nat} {D : Files} (h : Dsk w0 w db room n D) (hu : Upd (fun _ => False) w w') (h1 : w.heap.size ≤ eb) (h2 : eb < w'.heap.size) (hc : w'.cell? ⟨eb, 2, none⟩ = some (.map none)) : Dsk2 w0 eb w' db room n D := by
  obtain ⟨S, g1, g2, g3⟩ := h
  have hb : ∀ k, S k → k < w.heap.size := by obtain ⟨E, hE, _⟩ := g1; exact hE.below
  exact ⟨S, g1.upd hu (fun _ _ f => f), g2, g3.trans hu (fun _ _ h => h), fun hs => by have := hb eb hs; omega, h2, hc⟩
theorem d2_any {P : Program} {f : FuncId} {args : Array Value} {w0 w : World} {eb db room n m : Nat} {D D' : Files} {code : Nat} (h : Dsk2 w0 eb w db room n D) (hc : ∀ S, Has w S db room n D → Calls P f args w (Op S w db room m D' code)) :
    Calls P f args w fun e w' => e = .returned (.int .i64 (code : Nat)) ∧ Dsk2 w0 eb w' db room m D' := by
  obtain ⟨S, h1, h2, h3, h4, h5, h6⟩ := h
  refine (hc S h1).mono ?_
  rintro e w' ⟨rfl, S', g1, g2, g3⟩
  exact ⟨rfl, S', g1, fun k hk => (g2 k hk).elim (h2 k) (fun e => Nat.le_trans h3.size e), Upd.fresh h3 g3 h2, fun hs => (g2 eb hs).elim h4 (fun e => by omega), Nat.lt_of_lt_of_le h5 g3.size, cell_upd g3 h6 h4⟩
def kn0 : Files := []
def kn1 : Files := [⟨⟨#[97]⟩, ⟨#[97, 98, 99]⟩, 0⟩]
def kn2 : Files := [⟨⟨#[97]⟩, ⟨#[97, 98, 99]⟩, 0⟩, ⟨⟨#[98]⟩, ⟨#[120]⟩, 0⟩]
def kn3 : Files := [⟨⟨#[97]⟩, ⟨#[97, 98, 99]⟩, 3⟩, ⟨⟨#[98]⟩, ⟨#[120]⟩, 0⟩]
def kn4 : Files := [⟨⟨#[97]⟩, ⟨#[97, 98, 99, 100]⟩, 3⟩, ⟨⟨#[98]⟩, ⟨#[120]⟩, 0⟩]
def kn5 : Files := [⟨⟨#[97]⟩, ⟨#[97, 98, 99]⟩, 3⟩, ⟨⟨#[98]⟩, ⟨#[]⟩, 0⟩]
def kn6 : Files := [⟨⟨#[97]⟩, ⟨#[97, 98, 99, 100, 101]⟩, 3⟩, ⟨⟨#[98]⟩, ⟨#[]⟩, 0⟩]
def kn7 : Files := [⟨⟨#[97]⟩, ⟨#[97, 98, 99, 100, 101]⟩, 5⟩, ⟨⟨#[98]⟩, ⟨#[]⟩, 0⟩]
def kn8 : Files := [⟨⟨#[98]⟩, ⟨#[97, 98, 99, 100, 101]⟩, 5⟩]
theorem knf1 : appendD 5 kn0 ⟨#[97]⟩ ⟨#[97, 98, 99]⟩ = (kn1, 0) := by kernel_rfl
theorem knf2 : appendD 5 kn1 ⟨#[98]⟩ ⟨#[120, 121, 122]⟩ = (kn1, 7) := by kernel_rfl
theorem knf3 : appendD 5 kn1 ⟨#[98]⟩ ⟨#[120]⟩ = (kn2, 0) := by kernel_rfl
theorem knf4 : 5 - total kn2 = 1 := by kernel_rfl
theorem knf5 : syncD kn2 ⟨#[97]⟩ = (kn3, 0) := by kernel_rfl
theorem knf6 : appendD 5 kn3 ⟨#[97]⟩ ⟨#[100]⟩ = (kn4, 0) := by kernel_rfl
theorem knf7 : crashD kn4 [] = kn5 := by kernel_rfl
theorem knf8 : readD kn5 ⟨#[97]⟩ = (⟨#[97, 98, 99]⟩, 0) := by kernel_rfl
theorem knf9 : readD kn5 ⟨#[98]⟩ = (⟨#[]⟩, 0) := by kernel_rfl
theorem knf10 : listD kn5 ⟨#[]⟩ = [⟨#[97]⟩, ⟨#[98]⟩] := by kernel_rfl
theorem knf11 : appendD 5 kn5 ⟨#[97]⟩ ⟨#[100, 101]⟩ = (kn6, 0) := by kernel_rfl
theorem knf12 : crashD kn6 [-1] = kn7 := by kernel_rfl
theorem knf13 : readD kn7 ⟨#[97]⟩ = (⟨#[97, 98, 99, 100, 101]⟩, 0) := by kernel_rfl
theorem knf14 : syncedD kn7 ⟨#[97]⟩ = 5 := by kernel_rfl
theorem knf15 : renameD kn7 ⟨#[97]⟩ ⟨#[98]⟩ = (kn8, 0) := by kernel_rfl
theorem knf16 : readD kn8 ⟨#[98]⟩ = (⟨#[97, 98, 99, 100, 101]⟩, 0) := by kernel_rfl
theorem knf17 : readD kn8 ⟨#[97]⟩ = (⟨#[]⟩, 5) := by kernel_rfl
theorem knf18 : removeD kn8 ⟨#[98]⟩ = (kn0, 0) := by kernel_rfl
theorem knf19 : removeD kn0 ⟨#[98]⟩ = (kn0, 5) := by kernel_rfl
theorem knf20 : syncD kn0 ⟨#[98]⟩ = (kn0, 5) := by kernel_rfl
theorem knf21 : renameD kn0 ⟨#[98]⟩ ⟨#[99]⟩ = (kn0, 5) := by kernel_rfl
theorem knf22 : appendD 5 kn0 ⟨#[]⟩ ⟨#[120]⟩ = (kn0, 2) := by kernel_rfl

set_option maxHeartbeats 16000000 in
set_option maxRecDepth 100000 in
theorem dknown_walk (w : World) : Calls Try.prog 17 #[] w (SamePost true w) := by
  have m65 : ∀ u : World, (Instr.makeSlice 34 (.int .i64 65) (.int .i64 65)).run Try.prog u = .ok (.slice (some ⟨u.heap.size, 0, none⟩) 65 65) (u.alloc (.cells (zcells 65) 5)) := made 65 (by decide)
  have c65 := made_conv 65 (by decide)
  have s65 : Hid ((zeros 65).size = 65) := zeros_size 65
  have n65 : Hid (nameOk (zeros 65) = false) := by show _ = _; unfold nameOk; rw [s65.out]; decide
  have hwide : Hid (∀ room D x, appendD room D (zeros 65) x = (D, 2)) := fun room D x => by unfold appendD; rw [n65.out]; simp
  generalize zeros 65 = Z at *
  generalize zcells 65 = C at *
  go_enter Try.func17, Try.ntmps17
  go_wp2_with fail
  refine (d_new 5 w _ (Upd.refl _ _) (by decide)).mono ?_
  rintro e w1 ⟨db, rfl, h1⟩
  rw [show (5 : Int).toNat = 5 from rfl] at h1
  have h : Dsk w w1 db 5 0 kn0 := h1
  clear h1
  go_wp2_with fail
  refine (d_append h ⟨#[97]⟩ ⟨#[97, 98, 99]⟩ (by decide) (by decide) (by decide)).mono ?_
  rintro e w2 ⟨rfl, h2⟩
  rw [knf1] at h2 ⊢
  clear h
  have h := h2
  clear h2
  go_wp2_with fail
  refine (d_append h ⟨#[98]⟩ ⟨#[120, 121, 122]⟩ (by decide) (by decide) (by decide)).mono ?_
  rintro e w2 ⟨rfl, h2⟩
  rw [knf2] at h2 ⊢
  clear h
  have h := h2
  clear h2
  go_wp2_with fail
  refine (d_append h ⟨#[98]⟩ ⟨#[120]⟩ (by decide) (by decide) (by decide)).mono ?_
  rintro e w2 ⟨rfl, h2⟩
  rw [knf3] at h2 ⊢
  clear h
  have h := h2
  clear h2
  go_wp2_with fail
  refine (d_free h).mono ?_
  rintro e w2 ⟨rfl, hu⟩
  rw [knf4]
  have h2 := h.upd hu
  clear h hu
  have h := h2
  clear h2
  go_wp2_with fail
  refine (d_sync h ⟨#[97]⟩ (by decide)).mono ?_
  rintro e w2 ⟨rfl, h2⟩
  rw [knf5] at h2 ⊢
  clear h
  have h := h2
  clear h2
  go_wp2_with fail
  refine (d_append h ⟨#[97]⟩ ⟨#[100]⟩ (by decide) (by decide) (by decide)).mono ?_
  rintro e w2 ⟨rfl, h2⟩
  rw [knf6] at h2 ⊢
  clear h
  have h := h2
  clear h2
  go_wp2_with fail
  refine (d_crash_nil h (by decide) (by decide)).mono ?_
  rintro e w2 ⟨rfl, h2⟩
  rw [knf7] at h2
  clear h
  have h := h2
  clear h2
  go_wp2_with fail
  refine (d_read h ⟨#[97]⟩ (by decide)).mono ?_
  rintro e w2 ⟨rfl, rfl⟩
  rw [knf8]
  go_wp2_with fail
  refine (d_read h ⟨#[98]⟩ (by decide)).mono ?_
  rintro e w2 ⟨rfl, rfl⟩
  rw [knf9]
  go_wp2_with fail
  refine (d_list h ⟨#[]⟩ (by decide)).mono ?_
  rintro e w2 ⟨v, rfl, ho, hu⟩
  rw [knf10] at ho
  have hl := StrsAt.of_own ho
  obtain ⟨a0, lcap, rfl⟩ := hl.slice
  obtain ⟨b0, o0, rfl, hc0⟩ := hl.cell (i := 0) (by decide)
  obtain ⟨b1, o1, e1, hc1⟩ := hl.cell (i := 1) (by decide)
  simp only [Option.some.injEq, Addr.mk.injEq, and_true] at e1
  obtain ⟨rfl, rfl⟩ := e1
  have c0 : w2.cell? ⟨b0, o0, none⟩ = some (.string ⟨#[97]⟩) := hc0
  have c1 : w2.cell? ⟨b0, o0 + 1, none⟩ = some (.string ⟨#[98]⟩) := hc1
  have h2 := h.upd hu
  clear h hu ho hl hc0 hc1
  have h := h2
  clear h2
  go_wp2_with fail
  clear c0 c1
  refine (d_append h ⟨#[97]⟩ ⟨#[100, 101]⟩ (by decide) (by decide) (by decide)).mono ?_
  rintro e w2 ⟨rfl, h2⟩
  rw [knf11] at h2 ⊢
  clear h
  have h := h2
  clear h2
  go_wp2_with fail
  refine (d_crash_new h [-1] (by decide) (by decide) (by decide) (by decide)).mono ?_
  rintro e w2 ⟨rfl, h2⟩
  rw [knf12] at h2
  clear h
  have h := h2
  clear h2
  go_wp2_with fail
  refine (d_read h ⟨#[97]⟩ (by decide)).mono ?_
  rintro e w2 ⟨rfl, rfl⟩
  rw [knf13]
  go_wp2_with fail
  refine (d_synced h ⟨#[97]⟩ (by decide)).mono ?_
  rintro e w2 ⟨rfl, rfl⟩
  rw [knf14]
  go_wp2_with fail
  refine (d_rename h ⟨#[97]⟩ ⟨#[98]⟩ (by decide) (by decide) (by decide)).mono ?_
  rintro e w2 ⟨rfl, h2⟩
  rw [knf15] at h2 ⊢
  clear h
  have h := h2
  clear h2
  go_wp2_with fail
  refine (d_read h ⟨#[98]⟩ (by decide)).mono ?_
  rintro e w2 ⟨rfl, rfl⟩
  rw [knf16]
  go_wp2_with fail
  refine (d_read h ⟨#[97]⟩ (by decide)).mono ?_
  rintro e w2 ⟨rfl, rfl⟩
  rw [knf17]
  go_upto_region 20 with fail
  have hs1 : (w2.alloc (.cells C 5)).heap.size = w2.heap.size + 1 := by simp
  have hh := Dsk2.make (eb := w2.heap.size + 1) h (((Upd.refl (fun _ => False) w2).alloc (.cells C 5)).alloc (.cells #[.int .i64 0, .int .i64 0, .map none] 85)) (by omega) (by simp) (by
    have := heap_alloc (w := w2.alloc (.cells C 5)) (.cells #[.int .i64 0, .int .i64 0, .map none] 85)
    rw [hs1] at this
    exact cell_of_heap this 2)
  clear h hs1 m65 c65
  generalize (w2.alloc (.cells C 5)).alloc (.cells #[.int .i64 0, .int .i64 0, .map none] 85) = w3 at *
  generalize w2.heap.size + 1 = eb at *
  have h := hh
  clear hh
  have hgn : ∀ u : World, Gone (.pointer none) u := fun u => .inl rfl
  go_wp2_with fail
  refine (gone_read (hgn _) _).mono ?_
  rintro e w4 ⟨rfl, rfl⟩
  go_wp2_with fail
  refine (gone_crash (hgn _) _).mono ?_
  rintro e w4 ⟨rfl, hu⟩
  have h2 := h.upd hu
  clear h hu
  have h := h2
  clear h2
  go_wp2_with fail
  refine (gone_crash (h.upd ((Upd.refl _ _).alloc _)).gone _).mono ?_
  rintro e w5 ⟨rfl, hu⟩
  have h2 := (h.upd ((Upd.refl _ _).alloc (.cells #[.int .i64 1] 3))).upd hu
  clear h hu
  have h := h2
  clear h2
  go_wp2_with fail
  refine (dworks_any _).mono ?_
  rintro e w6 ⟨rfl, hu⟩
  have h2 := h.upd hu
  clear h hu
  have h := h2
  clear h2
  go_wp2_with fail
  refine (d2_any h fun S hS => remove_any hS ⟨#[98]⟩ (by decide)).mono ?_
  rintro e w7 ⟨rfl, h2⟩
  rw [knf18] at h2 ⊢
  clear h
  have h := h2
  clear h2
  go_wp2_with fail
  refine (d2_any h fun S hS => remove_any hS ⟨#[98]⟩ (by decide)).mono ?_
  rintro e w7 ⟨rfl, h2⟩
  rw [knf19] at h2 ⊢
  clear h
  have h := h2
  clear h2
  go_wp2_with fail
  refine (d2_any h fun S hS => sync_any hS ⟨#[98]⟩ (by decide)).mono ?_
  rintro e w7 ⟨rfl, h2⟩
  rw [knf20] at h2 ⊢
  clear h
  have h := h2
  clear h2
  go_wp2_with fail
  refine (d2_any h fun S hS => rename_any hS ⟨#[98]⟩ ⟨#[99]⟩ (by decide) (by decide) (by decide)).mono ?_
  rintro e w7 ⟨rfl, h2⟩
  rw [knf21] at h2 ⊢
  clear h
  have h := h2
  clear h2
  go_wp2_with fail
  refine (d2_any h fun S hS => append_any hS ⟨#[]⟩ ⟨#[120]⟩ (by decide) (by decide) (by decide)).mono ?_
  rintro e w7 ⟨rfl, h2⟩
  rw [knf22] at h2 ⊢
  clear h
  have h := h2
  clear h2
  go_wp2_with fail
  refine (d2_any h fun S hS => append_any hS Z ⟨#[120]⟩ (by rw [s65.out]; decide) (by decide) (by decide)).mono ?_
  rintro e w7 ⟨rfl, h2⟩
  rw [hwide.out] at h2 ⊢
  clear h
  have h := h2
  clear h2
  go_wp2_with fail
  refine (new_any (-3) _ (by decide)).mono ?_
  rintro e w8 ⟨db2, S2, rfl, hn, _, hu⟩
  have h2 := h.upd hu
  clear h hu
  have h := h2
  clear h2
  go_wp2_with fail
  refine (free_any hn).mono ?_
  rintro e w9 ⟨rfl, hu⟩
  rw [show (-3 : Int).toNat - total [] = 0 from rfl]
  have h2 := h.upd hu
  clear h hu hn
  have h := h2
  clear h2
  go_wp2_with fail
  refine (gone_append (hgn _) _ _).mono ?_
  rintro e w9 ⟨rfl, rfl⟩
  go_wp2_with fail
  refine (gone_append h.gone _ _).mono ?_
  rintro e w9 ⟨rfl, rfl⟩
  go_wp2_with fail
  refine (gone_sync h.gone _).mono ?_
  rintro e w9 ⟨rfl, rfl⟩
  go_wp2_with fail
  refine (gone_rename (hgn _) _ _).mono ?_
  rintro e w9 ⟨rfl, rfl⟩
  go_wp2_with fail
  refine (gone_remove (hgn _) _).mono ?_
  rintro e w9 ⟨rfl, rfl⟩
  go_wp2_with fail
  refine (gone_free (hgn _)).mono ?_
  rintro e w9 ⟨rfl, rfl⟩
  go_wp2_with fail
  refine (gone_list h.gone _).mono ?_
  rintro e w9 ⟨rfl, hu⟩
  have h2 := h.upd hu
  clear h hu
  have h := h2
  clear h2
  go_wp2_with fail
  refine (gone_synced (hgn _) _).mono ?_
  rintro e w9 ⟨rfl, rfl⟩
  go_wp2_with fail
  refine (gone_copy (hgn _)).mono ?_
  rintro e w9 ⟨rfl, rfl⟩
  go_wp2_with fail
  refine (gone_copy h.gone).mono ?_
  rintro e w9 ⟨rfl, rfl⟩
  go_wp2_with fail
  go_ret
  exact ⟨rfl, h.fresh⟩
end Go.Proofs.Ytgkegfgdpekehaa
