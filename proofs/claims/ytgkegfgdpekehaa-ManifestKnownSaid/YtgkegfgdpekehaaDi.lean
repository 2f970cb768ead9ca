/- A disk alone in new memory; the walk of the law's works. -/
import Derived.Test.YtgkegfgdpekehaaDh
namespace Go.Proofs.Ytgkegfgdpekehaa
open Go.RowKit Go.Acre Go.Acre.Dk Go.Maps

/-- since w0 only new memory has turned, and in it block db is a disk -/
def Dsk (w0 w : World) (db room n : Nat) (D : Files) : Prop := ∃ S, Has w S db room n D ∧ (∀ k, S k → w0.heap.size ≤ k) ∧ Upd (fun _ => False) w0 w
theorem Upd.fresh {S : Nat → Prop} {a b c : World} (h : Upd (fun _ => False) a b) (k : Upd S b c) (hS : ∀ k, S k → a.heap.size ≤ k) : Upd (fun _ => False) a c :=
  h.trans k (fun i hi e => by have := hS i e; omega)
theorem Dsk.upd {w0 w w' : World} {db room n : Nat} {D : Files} (h : Dsk w0 w db room n D) (hu : Upd (fun _ => False) w w') : Dsk w0 w' db room n D := by
  obtain ⟨S, h1, h2, h3⟩ := h
  exact ⟨S, h1.upd hu (fun _ _ f => f), h2, h3.trans hu (fun _ _ h => h)⟩
theorem Dsk.fresh {w0 w : World} {db room n : Nat} {D : Files} (h : Dsk w0 w db room n D) : Upd (fun _ => False) w0 w := by
  obtain ⟨S, h1, h2, h3⟩ := h
  exact h3
theorem Dsk.may {w0 w : World} {db room n : Nat} {D : Files} (h : Dsk w0 w db room n D) : May room D := by
  obtain ⟨S, h1, h2, h3⟩ := h
  exact h1.may
theorem Dsk.mono {w0 w : World} {db room n m : Nat} {D : Files} (h : Dsk w0 w db room n D) (hm : n ≤ m) : Dsk w0 w db room m D := by
  obtain ⟨S, h1, h2, h3⟩ := h
  exact ⟨S, h1.mono hm, h2, h3⟩
theorem Dsk.op {w0 w w' : World} {db room m : Nat} {D' : Files} {S : Nat → Prop} {code : Nat} {e : Ending} (h2 : ∀ k, S k → w0.heap.size ≤ k) (h3 : Upd (fun _ => False) w0 w) (h : Op S w db room m D' code e w') :
    e = .returned (.int .i64 (code : Nat)) ∧ Dsk w0 w' db room m D' := by
  obtain ⟨rfl, S', h4, h5, h6⟩ := h
  exact ⟨rfl, S', h4, fun k hk => (h5 k hk).elim (h2 k) (fun e => Nat.le_trans h3.size e), Upd.fresh h3 h6 h2⟩
def DPost (w0 : World) (db room n : Nat) (D' : Files) (code : Nat) (e : Ending) (w' : World) : Prop := e = .returned (.int .i64 (code : Nat)) ∧ Dsk w0 w' db room n D'
theorem d_new (r : Int) (w0 w : World) (hu : Upd (fun _ => False) w0 w) (h : -9223372036854775808 ≤ r ∧ r ≤ 9223372036854775807) : Calls Try.prog 42 #[.int .i64 r] w fun e w' => ∃ db, e = .returned (.pointer (some ⟨db, 0, none⟩)) ∧ Dsk w0 w' db r.toNat 0 [] := by
  refine (new_any r w h).mono ?_
  rintro e w' ⟨db, S, rfl, h1, h2, h3⟩
  exact ⟨db, rfl, S, h1, fun k hk => Nat.le_trans hu.size (h2 k hk), hu.trans h3 (fun _ _ h => h)⟩
theorem d_append {w0 w : World} {db room n : Nat} {D : Files} (h : Dsk w0 w db room n D) (nn data : ByteArray) (hk : nn.size ≤ maxLen) (hds : data.size ≤ 9223372036854775807) (hnm : n < maxLen) :
    Calls Try.prog 43 #[.pointer (some ⟨db, 0, none⟩), .string nn, .string data] w (DPost w0 db room (n + 1) (appendD room D nn data).1 (appendD room D nn data).2) := by
  obtain ⟨S, h1, h2, h3⟩ := h
  refine (append_any h1 nn data hk hds hnm).mono ?_
  intro e w' h4
  exact Dsk.op h2 h3 h4
theorem d_sync {w0 w : World} {db room n : Nat} {D : Files} (h : Dsk w0 w db room n D) (k : ByteArray) (hk : k.size ≤ maxLen) :
    Calls Try.prog 44 #[.pointer (some ⟨db, 0, none⟩), .string k] w (DPost w0 db room n (syncD D k).1 (syncD D k).2) := by
  obtain ⟨S, h1, h2, h3⟩ := h
  refine (sync_any h1 k hk).mono ?_
  intro e w' h4
  exact Dsk.op h2 h3 h4
theorem d_remove {w0 w : World} {db room n : Nat} {D : Files} (h : Dsk w0 w db room n D) (k : ByteArray) (hk : k.size ≤ maxLen) :
    Calls Try.prog 58 #[.pointer (some ⟨db, 0, none⟩), .string k] w (DPost w0 db room n (removeD D k).1 (removeD D k).2) := by
  obtain ⟨S, h1, h2, h3⟩ := h
  refine (remove_any h1 k hk).mono ?_
  intro e w' h4
  exact Dsk.op h2 h3 h4
theorem d_rename {w0 w : World} {db room n : Nat} {D : Files} (h : Dsk w0 w db room n D) (a c : ByteArray) (ha : a.size ≤ maxLen) (hc : c.size ≤ maxLen) (hnm : n < maxLen) :
    Calls Try.prog 50 #[.pointer (some ⟨db, 0, none⟩), .string a, .string c] w (DPost w0 db room (n + 1) (renameD D a c).1 (renameD D a c).2) := by
  obtain ⟨S, h1, h2, h3⟩ := h
  refine (rename_any h1 a c ha hc hnm).mono ?_
  intro e w' h4
  exact Dsk.op h2 h3 h4
theorem d_read {w0 w : World} {db room n : Nat} {D : Files} (h : Dsk w0 w db room n D) (k : ByteArray) (hk : k.size ≤ maxLen) :
    Calls Try.prog 47 #[.pointer (some ⟨db, 0, none⟩), .string k] w (ReadPost (readD D k) w) := by
  obtain ⟨S, h1, h2, h3⟩ := h
  exact read_any h1 k hk
theorem d_synced {w0 w : World} {db room n : Nat} {D : Files} (h : Dsk w0 w db room n D) (k : ByteArray) (hk : k.size ≤ maxLen) :
    Calls Try.prog 48 #[.pointer (some ⟨db, 0, none⟩), .string k] w (SyncedPost (syncedD D k) w) := by
  obtain ⟨S, h1, h2, h3⟩ := h
  exact synced_any h1 k hk
theorem d_free {w0 w : World} {db room n : Nat} {D : Files} (h : Dsk w0 w db room n D) : Calls Try.prog 54 #[.pointer (some ⟨db, 0, none⟩)] w (IntPost (room - total D) w) := by
  obtain ⟨S, h1, h2, h3⟩ := h
  exact free_any h1
theorem d_list {w0 w : World} {db room n : Nat} {D : Files} (h : Dsk w0 w db room n D) (p : ByteArray) (hn : n ≤ 1000000) : Calls Try.prog 45 #[.pointer (some ⟨db, 0, none⟩), .string p] w (ListPost (listD D p) w) := by
  obtain ⟨S, h1, h2, h3⟩ := h
  exact list_any h1 p hn
def DEnd (w0 : World) (db room n : Nat) (D' : Files) (e : Ending) (w' : World) : Prop := e = .returned (.tuple #[]) ∧ Dsk w0 w' db room n D'
/-- a crash whose list of numbers lies in older memory, or in a block that is not the disk's -/
theorem d_crash {w0 w : World} {db room n : Nat} {D : Files} (h : Dsk w0 w db room n D) (a : Option Addr) (kcap : Nat) (zs : List Int) (kl : Nat) (hkl : kl = zs.length) (hz : IntsAt .i64 w (.slice a kl kcap) zs) (hzw : ∀ z ∈ zs, -9223372036854775808 ≤ z ∧ z ≤ 9223372036854775807)
    (hza : ∀ g o, zs ≠ [] → a = some ⟨g, o, none⟩ → g < w0.heap.size) (hn : n ≤ 1000000) (htot : total D ≤ 4611686018427387904) :
    Calls Try.prog 46 #[.pointer (some ⟨db, 0, none⟩), .slice a kl kcap] w (DEnd w0 db room n (crashD D zs)) := by
  obtain ⟨S, h1, h2, h3⟩ := h
  refine (crash_any h1 a kcap zs kl hkl hz hzw (fun g o hne e hs => by have := hza g o hne e; have := h2 g hs; omega) hn htot).mono ?_
  rintro e w' ⟨rfl, h4, h5⟩
  exact ⟨rfl, S, h4, h2, Upd.fresh h3 h5 h2⟩
/-- .. that lies in a block that has just been made -/
theorem d_crash_new {w0 w : World} {db room n : Nat} {D : Files} (h : Dsk w0 w db room n D) (zs : List Int) (hz1 : zs.length ≤ 1000000) (hzw : ∀ z ∈ zs, -9223372036854775808 ≤ z ∧ z ≤ 9223372036854775807) (hn : n ≤ 1000000) (htot : total D ≤ 4611686018427387904) :
    Calls Try.prog 46 #[.pointer (some ⟨db, 0, none⟩), .slice (some ⟨w.heap.size, 0, none⟩) zs.length zs.length] (w.alloc (.cells (zs.map (.int .i64)).toArray 3)) (DEnd w0 db room n (crashD D zs)) := by
  obtain ⟨S, h1, h2, h3⟩ := h
  have hbel : ∀ k, S k → k < w.heap.size := by obtain ⟨E, hE, _⟩ := h1; exact hE.below
  refine (crash_any (h1.upd ((Upd.refl (fun _ => False) w).alloc _) (fun _ _ f => f)) (some ⟨w.heap.size, 0, none⟩) zs.length zs zs.length rfl (ints_alloc zs hz1) hzw (fun g o _ e hs => by
    simp only [Option.some.injEq, Addr.mk.injEq] at e
    have := hbel g hs
    omega) hn htot).mono ?_
  rintro e w' ⟨rfl, h4, h5⟩
  exact ⟨rfl, S, h4, h2, Upd.fresh (h3.alloc _) h5 h2⟩
/-- .. that is nil -/
theorem d_crash_nil {w0 w : World} {db room n : Nat} {D : Files} (h : Dsk w0 w db room n D) (hn : n ≤ 1000000) (htot : total D ≤ 4611686018427387904) :
    Calls Try.prog 46 #[.pointer (some ⟨db, 0, none⟩), .slice none 0 0] w (DEnd w0 db room n (crashD D [])) :=
  d_crash h none 0 [] 0 rfl (IntsAt.nil _ _) (by simp) (by simp) hn htot

def wk1 : Files := [⟨⟨#[97]⟩, ⟨#[97, 98, 99]⟩, 0⟩]
def wk2 : Files := [⟨⟨#[97]⟩, ⟨#[97, 98, 99]⟩, 3⟩]
def wk3 : Files := [⟨⟨#[97]⟩, ⟨#[97, 98, 99, 100, 101]⟩, 3⟩]
def wk4 : Files := [⟨⟨#[97]⟩, ⟨#[97, 98, 99, 100]⟩, 4⟩]
theorem wk_1 : appendD 9 [] ⟨#[97]⟩ ⟨#[97, 98, 99]⟩ = (wk1, 0) := by kernel_rfl
theorem wk_2 : syncD wk1 ⟨#[97]⟩ = (wk2, 0) := by kernel_rfl
theorem wk_3 : appendD 9 wk2 ⟨#[97]⟩ ⟨#[100, 101]⟩ = (wk3, 0) := by kernel_rfl
theorem wk_4 : crashD wk3 [1] = wk4 := by kernel_rfl
theorem wk_5 : readD wk4 ⟨#[97]⟩ = (⟨#[97, 98, 99, 100]⟩, 0) := by kernel_rfl
theorem wk_6 : syncedD wk4 ⟨#[97]⟩ = 4 := by kernel_rfl
theorem wk_7 : 9 - total wk4 = 5 := by kernel_rfl
set_option maxHeartbeats 2000000 in
set_option maxRecDepth 100000 in
theorem dworks_any (w : World) : Calls Try.prog 41 #[] w (SamePost true w) := by
  go_enter Try.func41, Try.ntmps41
  go_wp2_with fail
  refine (d_new 9 w _ (Upd.refl _ _) (by decide)).mono ?_
  rintro e w1 ⟨db, rfl, h1⟩
  go_wp2_with fail
  refine (d_append h1 _ _ (by decide) (by decide) (by decide)).mono ?_
  rintro e w2 ⟨rfl, h2⟩
  rw [show (9 : Int).toNat = 9 from rfl, wk_1] at h2
  rw [show (9 : Int).toNat = 9 from rfl, wk_1]
  go_wp2_with fail
  refine (d_sync h2 _ (by decide)).mono ?_
  rintro e w3 ⟨rfl, h3⟩
  rw [wk_2] at h3 ⊢
  go_wp2_with fail
  refine (d_append h3 _ _ (by decide) (by decide) (by decide)).mono ?_
  rintro e w4 ⟨rfl, h4⟩
  rw [wk_3] at h4 ⊢
  clear h1 h2 h3
  go_wp2_with fail
  refine (d_crash_new h4 [1] (by decide) (by decide) (by decide) (by decide)).mono ?_
  rintro e w5 ⟨rfl, h5⟩
  rw [wk_4] at h5
  go_wp2_with fail
  refine (d_read h5 _ (by decide)).mono ?_
  rintro e w6 ⟨rfl, rfl⟩
  rw [wk_5]
  go_wp2_with fail
  refine (d_synced h5 _ (by decide)).mono ?_
  rintro e w6 ⟨rfl, rfl⟩
  rw [wk_6]
  go_wp2_with fail
  refine (d_free h5).mono ?_
  rintro e w6 ⟨rfl, hu⟩
  rw [show wk4 = wk4 from rfl, wk_7]
  go_wp2_with fail
  go_ret
  exact ⟨rfl, h5.fresh.trans hu (fun _ _ h => h)⟩
end Go.Proofs.Ytgkegfgdpekehaa
