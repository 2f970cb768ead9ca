/- The walk of Crash. -/
import Derived.Test.YtgkegfgdpekehaaGreatDg
namespace Go.Proofs.YtgkegfgdpekehaaGreat
open Go.RowKit Go.Acre Go.Acre.Dk Go.Maps

/-- so many files cut, the others as they were -/
structure Cutting (zs : List Int) (E A B : List EB) : Prop where
  left : B = E.drop A.length
  done : plain A = crashD (plain (E.take A.length)) zs
  len : A.length ≤ E.length
theorem Cutting.start (zs : List Int) (E : List EB) : Cutting zs E [] E := ⟨rfl, rfl, Nat.zero_le _⟩
theorem crashD_snoc (D : Files) (f : Ent) (zs : List Int) : crashD (D ++ [f]) zs = crashD D zs ++ [cutE zs[D.length]? f] := by
  unfold crashD
  rw [List.mapIdx_append]
  simp
theorem Cutting.next {zs : List Int} {E A B : List EB} {f : Ent} {b : Nat} (h : Cutting zs E A ((f, b) :: B)) : Cutting zs E (A ++ [(cutE zs[A.length]? f, b)]) B ∧ A.length < E.length := by
  have hl : A.length < E.length := by
    have := congrArg List.length h.left
    simp at this
    omega
  have he : E[A.length] = (f, b) := by
    have := h.left
    rw [List.drop_eq_getElem_cons hl] at this
    simp only [List.cons.injEq] at this
    exact this.1.symm
  refine ⟨⟨?_, ?_, by simp; omega⟩, hl⟩
  · have := h.left
    rw [List.drop_eq_getElem_cons hl] at this
    simp only [List.cons.injEq] at this
    simpa using this.2
  · simp only [List.length_append, List.length_singleton]
    rw [List.take_succ_eq_append_getElem hl, he]
    simp only [List.map_append, List.map_cons, List.map_nil]
    rw [crashD_snoc, ← h.done]
    simp [List.length_take, Nat.min_eq_left h.len]
theorem Cutting.last {zs : List Int} {E A : List EB} (h : Cutting zs E A []) : plain A = crashD (plain E) zs := by
  have hl : E.length ≤ A.length := by
    have := congrArg List.length h.left
    simp at this
    omega
  rw [h.done, List.take_of_length_le hl]
theorem Cutting.name {zs : List Int} {E A B : List EB} {f : Ent} {b : Nat} (h : Cutting zs E A ((f, b) :: B)) (hl : A.length < (listD (plain E) ⟨#[]⟩).length) : (listD (plain E) ⟨#[]⟩)[A.length] = f.name := by
  have hle := (h.next).2
  have he : E[A.length] = (f, b) := by
    have := h.left
    rw [List.drop_eq_getElem_cons hle] at this
    simp only [List.cons.injEq] at this
    exact this.1.symm
  have hall : listD (plain E) ⟨#[]⟩ = (plain E).map (·.name) := by
    unfold listD
    rw [List.filter_eq_self]
    intro s _
    rfl
  simp [hall, he]
theorem list_all_length (D : Files) : (listD D ⟨#[]⟩).length = D.length := by
  have hall : listD D ⟨#[]⟩ = D.map (·.name) := by
    unfold listD
    rw [List.filter_eq_self]
    intro s _
    rfl
  rw [hall, List.length_map]

/-- the middle file is written anew -/
theorem DiskAt.cutOne {w w' : World} {S : Nat → Prop} {db room n : Nat} {A B : List EB} {f : Ent} {b : Nat} (h : DiskAt w S db room n (A ++ (f, b) :: B)) {nn : Nat} (hnn : nn ≤ f.bytes.size - f.synced) {t' : Nat} (ht' : t' = total (plain (A ++ (f, b) :: B)) - (f.bytes.size - f.synced - nn))
    (hu : Upd (fun i => i = b ∨ i = db) w w') (hfile : fileAt w' (⟨f.name, f.bytes.extract 0 (f.synced + nn), f.synced + nn⟩, b)) (hroot : ∀ mb, rootAt w db room (total (plain (A ++ (f, b) :: B))) mb → rootAt w' db room t' mb) :
    DiskAt w' S db room n (A ++ (⟨f.name, f.bytes.extract 0 (f.synced + nn), f.synced + nn⟩, b) :: B) := by
  have hsrt : Srt Bn (A ++ (f, b) :: B) := (map_srt Bn En (fun x : EB => x.1) (fun _ => rfl)).1 h.may.srt
  have hmem : (f, b) ∈ A ++ (f, b) :: B := by simp
  have hpm : f ∈ plain (A ++ (f, b) :: B) := List.mem_map.2 ⟨_, hmem, rfl⟩
  have hsy : f.synced ≤ f.bytes.size := h.may.syn f hpm
  have hg : get Bn (A ++ (f, b) :: B) f.name = some (f, b) := get_of Bn hsrt hmem
  have hsz : (f.bytes.extract 0 (f.synced + nn)).size = f.synced + nn := by rw [ByteArray.size_extract]; omega
  have hgp : get En (plain (A ++ (f, b) :: B)) f.name = some f := get_of En h.may.srt hpm
  have ht := total_put_some h.may.srt (x := ⟨f.name, f.bytes.extract 0 (f.synced + nn), f.synced + nn⟩) (f := f) hgp
  simp only [hsz] at ht
  have hle := h.may.fits
  have hst := size_le_total hpm
  have hs := h.set hg (f' := ⟨f.name, f.bytes.extract 0 (f.synced + nn), f.synced + nn⟩) rfl (h.may.put (h.may.names f hpm) (by simp only [hsz]; exact Nat.le_refl _) (by omega)) hu hfile (fun mb hr => by
    have := hroot mb hr
    have e : total (put En ⟨f.name, f.bytes.extract 0 (f.synced + nn), f.synced + nn⟩ (plain (A ++ (f, b) :: B))) = t' := by omega
    rw [e]
    exact this)
  have hpe : put Bn (⟨f.name, f.bytes.extract 0 (f.synced + nn), f.synced + nn⟩, b) (A ++ (f, b) :: B) = A ++ (⟨f.name, f.bytes.extract 0 (f.synced + nn), f.synced + nn⟩, b) :: B := put_mid Bn hsrt rfl
  rw [hpe] at hs
  exact hs.1

theorem ints_bound {k : IntKind} {w : World} {v : Value} {zs : List Int} (h : IntsAt k w v zs) : zs.length ≤ 9223372036854775807 := by
  obtain ⟨_, _, _, _, h1, h2, _⟩ := h
  unfold maxLen at h2
  omega
theorem nameOk_max {s : ByteArray} (h : nameOk s = true) : s.size ≤ maxLen := by
  unfold nameOk at h
  simp only [decide_eq_true_eq] at h
  unfold maxLen
  omega
theorem at_place2 (a m : Int) (hm : 0 < m) : (0 ≤ a.tmod m ∧ a.tmod m < m) ∨ (a.tmod m < 0 ∧ 0 ≤ a.tmod m + m) := by
  have h1 := Int.tmod_lt_of_pos a hm
  have h2 := Int.lt_tmod_of_pos a hm
  omega
/-- how many bytes are kept -/
def keptN (zs : List Int) (k u : Nat) : Nat := match zs[k]? with | some z => keepN z u | none => 0
theorem keptN_le (zs : List Int) (k u : Nat) : keptN zs k u ≤ u := by
  unfold keptN
  split
  · exact keepN_le _ _
  · exact Nat.zero_le _
theorem cutE_kept (zs : List Int) (k : Nat) (f : Ent) : cutE zs[k]? f = ⟨f.name, f.bytes.extract 0 (f.synced + keptN zs k (f.bytes.size - f.synced)), f.synced + keptN zs k (f.bytes.size - f.synced)⟩ := by
  unfold cutE keptN
  cases zs[k]? <;> rfl
def CrashPost (S : Nat → Prop) (w : World) (db room n : Nat) (D' : Files) (e : Ending) (w' : World) : Prop :=
  e = .returned (.tuple #[]) ∧ Has w' S db room n D' ∧ Upd S w w'

end Go.Proofs.YtgkegfgdpekehaaGreat
/- A disk alone in new memory; the walk of the law's works. -/
namespace Go.Proofs.YtgkegfgdpekehaaGreat
open Go.RowKit Go.Acre Go.Acre.Dk Go.Maps

/-- since w0 only new memory has turned, and in it block db is a disk -/
def Dsk (w0 w : World) (db room n : Nat) (D : Files) : Prop := ∃ S, Has w S db room n D ∧ (∀ k, S k → w0.heap.size ≤ k) ∧ Upd (fun _ => False) w0 w
theorem Upd.fresh {S : Nat → Prop} {a b c : World} (h : Upd (fun _ => False) a b) (k : Upd S b c) (hS : ∀ k, S k → a.heap.size ≤ k) : Upd (fun _ => False) a c :=
  h.trans k (fun i hi e => by have := hS i e; omega)
theorem Dsk.upd {w0 w w' : World} {db room n : Nat} {D : Files} (h : Dsk w0 w db room n D) (hu : Upd (fun _ => False) w w') : Dsk w0 w' db room n D := by
  obtain ⟨S, h1, h2, h3⟩ := h
  exact ⟨S, h1.upd hu (fun _ _ f => f), h2, h3.trans hu (fun _ _ h => h)⟩
theorem Dsk.fresh {w0 w : World} {db room n : Nat} {D : Files} (h : Dsk w0 w db room n D) : Upd (fun _ => False) w0 w := by
  obtain ⟨S, h1, h2, h3⟩ := h
  exact h3
theorem Dsk.may {w0 w : World} {db room n : Nat} {D : Files} (h : Dsk w0 w db room n D) : May room D := by
  obtain ⟨S, h1, h2, h3⟩ := h
  exact h1.may
theorem Dsk.mono {w0 w : World} {db room n m : Nat} {D : Files} (h : Dsk w0 w db room n D) (hm : n ≤ m) : Dsk w0 w db room m D := by
  obtain ⟨S, h1, h2, h3⟩ := h
  exact ⟨S, h1.mono hm, h2, h3⟩
theorem Dsk.op {w0 w w' : World} {db room m : Nat} {D' : Files} {S : Nat → Prop} {code : Nat} {e : Ending} (h2 : ∀ k, S k → w0.heap.size ≤ k) (h3 : Upd (fun _ => False) w0 w) (h : Op S w db room m D' code e w') :
    e = .returned (.int .i64 (code : Nat)) ∧ Dsk w0 w' db room m D' := by
  obtain ⟨rfl, S', h4, h5, h6⟩ := h
  exact ⟨rfl, S', h4, fun k hk => (h5 k hk).elim (h2 k) (fun e => Nat.le_trans h3.size e), Upd.fresh h3 h6 h2⟩
def DPost (w0 : World) (db room n : Nat) (D' : Files) (code : Nat) (e : Ending) (w' : World) : Prop := e = .returned (.int .i64 (code : Nat)) ∧ Dsk w0 w' db room n D'
theorem d_new (r : Int) (w0 w : World) (hu : Upd (fun _ => False) w0 w) (h : -9223372036854775808 ≤ r ∧ r ≤ 9223372036854775807) : Calls Tryz.prog 4 #[.int .i64 r] w fun e w' => ∃ db, e = .returned (.pointer (some ⟨db, 0, none⟩)) ∧ Dsk w0 w' db r.toNat 0 [] := by
  refine (new_any r w h).mono ?_
  rintro e w' ⟨db, S, rfl, h1, h2, h3⟩
  exact ⟨db, rfl, S, h1, fun k hk => Nat.le_trans hu.size (h2 k hk), hu.trans h3 (fun _ _ h => h)⟩
theorem d_append {w0 w : World} {db room n : Nat} {D : Files} (h : Dsk w0 w db room n D) (nn data : ByteArray) (hk : nn.size ≤ maxLen) (hds : data.size ≤ 9223372036854775807) (hnm : n < maxLen) :
    Calls Tryz.prog 6 #[.pointer (some ⟨db, 0, none⟩), .string nn, .string data] w (DPost w0 db room (n + 1) (appendD room D nn data).1 (appendD room D nn data).2) := by
  obtain ⟨S, h1, h2, h3⟩ := h
  refine (append_any h1 nn data hk hds hnm).mono ?_
  intro e w' h4
  exact Dsk.op h2 h3 h4
theorem d_sync {w0 w : World} {db room n : Nat} {D : Files} (h : Dsk w0 w db room n D) (k : ByteArray) (hk : k.size ≤ maxLen) :
    Calls Tryz.prog 30 #[.pointer (some ⟨db, 0, none⟩), .string k] w (DPost w0 db room n (syncD D k).1 (syncD D k).2) := by
  obtain ⟨S, h1, h2, h3⟩ := h
  refine (sync_any h1 k hk).mono ?_
  intro e w' h4
  exact Dsk.op h2 h3 h4
theorem d_remove {w0 w : World} {db room n : Nat} {D : Files} (h : Dsk w0 w db room n D) (k : ByteArray) (hk : k.size ≤ maxLen) :
    Calls Tryz.prog 29 #[.pointer (some ⟨db, 0, none⟩), .string k] w (DPost w0 db room n (removeD D k).1 (removeD D k).2) := by
  obtain ⟨S, h1, h2, h3⟩ := h
  refine (remove_any h1 k hk).mono ?_
  intro e w' h4
  exact Dsk.op h2 h3 h4
theorem d_rename {w0 w : World} {db room n : Nat} {D : Files} (h : Dsk w0 w db room n D) (a c : ByteArray) (ha : a.size ≤ maxLen) (hc : c.size ≤ maxLen) (hnm : n < maxLen) :
    Calls Tryz.prog 31 #[.pointer (some ⟨db, 0, none⟩), .string a, .string c] w (DPost w0 db room (n + 1) (renameD D a c).1 (renameD D a c).2) := by
  obtain ⟨S, h1, h2, h3⟩ := h
  refine (rename_any h1 a c ha hc hnm).mono ?_
  intro e w' h4
  exact Dsk.op h2 h3 h4
theorem d_read {w0 w : World} {db room n : Nat} {D : Files} (h : Dsk w0 w db room n D) (k : ByteArray) (hk : k.size ≤ maxLen) :
    Calls Tryz.prog 17 #[.pointer (some ⟨db, 0, none⟩), .string k] w (ReadPost (readD D k) w) := by
  obtain ⟨S, h1, h2, h3⟩ := h
  exact read_any h1 k hk
theorem d_synced {w0 w : World} {db room n : Nat} {D : Files} (h : Dsk w0 w db room n D) (k : ByteArray) (hk : k.size ≤ maxLen) :
    Calls Tryz.prog 18 #[.pointer (some ⟨db, 0, none⟩), .string k] w (SyncedPost (syncedD D k) w) := by
  obtain ⟨S, h1, h2, h3⟩ := h
  exact synced_any h1 k hk
theorem d_free {w0 w : World} {db room n : Nat} {D : Files} (h : Dsk w0 w db room n D) : Calls Tryz.prog 15 #[.pointer (some ⟨db, 0, none⟩)] w (IntPost (room - total D) w) := by
  obtain ⟨S, h1, h2, h3⟩ := h
  exact free_any h1
theorem d_list {w0 w : World} {db room n : Nat} {D : Files} (h : Dsk w0 w db room n D) (p : ByteArray) (hn : n ≤ 1000000) : Calls Tryz.prog 14 #[.pointer (some ⟨db, 0, none⟩), .string p] w (ListPost (listD D p) w) := by
  obtain ⟨S, h1, h2, h3⟩ := h
  exact list_any h1 p hn
def DEnd (w0 : World) (db room n : Nat) (D' : Files) (e : Ending) (w' : World) : Prop := e = .returned (.tuple #[]) ∧ Dsk w0 w' db room n D'
def wk1 : Files := [⟨⟨#[97]⟩, ⟨#[97, 98, 99]⟩, 0⟩]
def wk2 : Files := [⟨⟨#[97]⟩, ⟨#[97, 98, 99]⟩, 3⟩]
def wk3 : Files := [⟨⟨#[97]⟩, ⟨#[97, 98, 99, 100, 101]⟩, 3⟩]
def wk4 : Files := [⟨⟨#[97]⟩, ⟨#[97, 98, 99, 100]⟩, 4⟩]
theorem wk_1 : appendD 9 [] ⟨#[97]⟩ ⟨#[97, 98, 99]⟩ = (wk1, 0) := by kernel_rfl
theorem wk_2 : syncD wk1 ⟨#[97]⟩ = (wk2, 0) := by kernel_rfl
theorem wk_3 : appendD 9 wk2 ⟨#[97]⟩ ⟨#[100, 101]⟩ = (wk3, 0) := by kernel_rfl
theorem wk_4 : crashD wk3 [1] = wk4 := by kernel_rfl
theorem wk_5 : readD wk4 ⟨#[97]⟩ = (⟨#[97, 98, 99, 100]⟩, 0) := by kernel_rfl
theorem wk_6 : syncedD wk4 ⟨#[97]⟩ = 4 := by kernel_rfl
theorem wk_7 : 9 - total wk4 = 5 := by kernel_rfl
end Go.Proofs.YtgkegfgdpekehaaGreat
