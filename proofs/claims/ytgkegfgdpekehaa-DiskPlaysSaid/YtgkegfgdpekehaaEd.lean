/- DiskPlays' walk. -/
import Derived.Test.YtgkegfgdpekehaaEc
import Derived.Test.YtgkegfgdpekehaaDi
namespace Go.Proofs.Ytgkegfgdpekehaa
open Go.RowKit Go.Acre Go.Acre.Dk Go.Maps
/-- the disk, the document's disk in its cell, and how much has come in -/
structure PS (w0 w : World) (S : Nat → Prop) (db mb room k : Nat) (D : Files) (a : Option Addr) (cap : Nat) : Prop where
  has : Has w S db room k D
  low : ∀ j, S j → w0.heap.size ≤ j
  upd : Upd (fun _ => False) w0 w
  files : FilesAt w (.slice a D.length cap) D
  apart : Apart S (.slice a D.length cap) D
  box : w.heap[mb]? = some (.cells #[.int .i64 (room : Nat), .slice a D.length cap] 69 (0, 0))
  nS : ¬ S mb
  mlow : w0.heap.size ≤ mb
  mapart : Apart (fun j => j = mb) (.slice a D.length cap) D
  len : D.length ≤ k
  tot : total D ≤ k * 140737488351232
theorem PS.next {w0 w w' : World} {S : Nat → Prop} {db mb room k : Nat} {D : Files} {a : Option Addr} {cap : Nat} (h : PS w0 w S db mb room k D a cap) (hu : Upd (fun _ => False) w w') : PS w0 w' S db mb room k D a cap :=
  ⟨h.has.upd hu (fun _ _ f => f), h.low, h.upd.trans hu (fun _ _ f => f), h.files.upd0 hu, h.apart, hu.keep h.box (fun f => f), h.nS, h.mlow, h.mapart, h.len, h.tot⟩
theorem PS.cells {w0 w : World} {S : Nat → Prop} {db mb room k : Nat} {D : Files} {a : Option Addr} {cap : Nat} (h : PS w0 w S db mb room k D a cap) :
    w.cell? ⟨mb, 0, none⟩ = some (.int .i64 (room : Nat)) ∧ w.cell? ⟨mb, 1, none⟩ = some (.slice a D.length cap) ∧ w.frozen? ⟨mb, 0, none⟩ = false ∧ w.frozen? ⟨mb, 1, none⟩ = false :=
  ⟨cell_of_heap h.box 0, cell_of_heap h.box 1, frozen_of_heap h.box 0 none, frozen_of_heap h.box 1 none⟩
/-- a block that is neither the disk's nor the document's is written -/
theorem PS.write {w0 w w' : World} {S : Nat → Prop} {db mb room k : Nat} {D : Files} {a : Option Addr} {cap : Nat} {T : Nat → Prop} {z : Nat} (h : PS w0 w S db mb room k D a cap) (hu : Upd T w w') (hT : ∀ j, T j → z ≤ j) (hS : ∀ j, S j → j < z) (hm : mb < z)
    (hf : D ≠ [] → ∀ g, (Value.slice a D.length cap).ownBlock = some g → g < z) (h0 : w0.heap.size ≤ z) : PS w0 w' S db mb room k D a cap :=
  ⟨h.has.upd hu (fun k hk t => by have := hT k t; have := hS k hk; omega), h.low, h.upd.trans hu (fun i hi t => by have := hT i t; omega), h.files.updS hu (fun hne g hg t => by have := hT g t; have := hf hne g hg; omega), h.apart,
    hu.keep h.box (fun t => by have := hT _ t; omega), h.nS, h.mlow, h.mapart, h.len, h.tot⟩
/-- a step has been made, and the document's disk laid into its cell -/
theorem PS.step {w0 w w5 w9 : World} {S : Nat → Prop} {db mb room k m : Nat} {D : Files} {a : Option Addr} {cap : Nat} (h : PS w0 w S db mb room k D a cap) {db' : Nat} {a' : Option Addr} {cap' : Nat} {D' : Files} {S' : Nat → Prop} (h1 : Has w5 S' db' room (k + 1) D') (h2 : ∀ j, S' j → S j ∨ w.heap.size ≤ j) (h3 : Upd S w w5)
    (h4 : FilesAt w5 (.slice a' D'.length cap') D') (h5 : Apart S' (.slice a' D'.length cap') D') (h6 : Grew D D' m) (hv : Value.slice a' D'.length cap' = .slice a D.length cap ∨ ∀ g, (Value.slice a' D'.length cap').ownBlock = some g → w.heap.size ≤ g) (hm : m ≤ 140737488351232) (h9 : Upd (fun _ => False) w5 w9) :
    PS w0 ((w9.setCell ⟨mb, 0, none⟩ (.int .i64 (room : Nat))).setCell ⟨mb, 1, none⟩ (.slice a' D'.length cap')) S' db' mb room (k + 1) D' a' cap' := by
  have hmb : mb < w.heap.size := lt_of_heap h.box
  have hnS : ¬ S' mb := fun s => (h2 mb s).elim h.nS (fun e => by omega)
  have hma : Apart (fun j => j = mb) (.slice a' D'.length cap') D' := by
    rcases hv with hv | hv
    · have hl : D'.length = D.length := by simp only [Value.slice.injEq] at hv; exact hv.2.1
      rw [hv]
      intro hne
      exact h.mapart (fun e => by subst e; exact hne (List.eq_nil_of_length_eq_zero hl))
    · intro _ g hg e
      have := hv g hg
      omega
  have hu2 : Upd (fun j => j = mb) w9 ((w9.setCell ⟨mb, 0, none⟩ (.int .i64 (room : Nat))).setCell ⟨mb, 1, none⟩ (.slice a' D'.length cap')) := upd2
  have hl := h.len
  have ht := h.tot
  obtain ⟨hl6, ht6⟩ := h6
  exact ⟨(h1.upd h9 (fun _ _ f => f)).upd hu2 (fun j hj e => hnS (e ▸ hj)), fun j hj => (h2 j hj).elim (h.low j) (fun e => Nat.le_trans h.upd.size e),
    Upd.fresh ((Upd.fresh h.upd h3 h.low).trans h9 (fun _ _ f => f)) hu2 (fun j e => e ▸ h.mlow), (h4.upd0 h9).updS hu2 hma, h5, cells2 (h9.keep (h3.keep h.box h.nS) (fun f => f)), hnS, h.mlow, hma, by omega, by omega⟩
/-- behind a step: what it has left, and the document's disk in a block of its own -/
structure Mid (wr wx : World) (S : Nat → Prop) (room k : Nat) (vin : Value) (D : Files) (m db' : Nat) (a' : Option Addr) (cap' : Nat) (D' : Files) (S' : Nat → Prop) (fb : Nat) : Prop where
  has : Has wx S' db' room (k + 1) D'
  low : ∀ j, S' j → S j ∨ wr.heap.size ≤ j
  upd : Upd S wr wx
  files : FilesAt wx (.slice a' D'.length cap') D'
  apart : Apart S' (.slice a' D'.length cap') D'
  grew : Grew D D' m
  same : Value.slice a' D'.length cap' = vin ∨ ∀ g, (Value.slice a' D'.length cap').ownBlock = some g → wr.heap.size ≤ g
  box : wx.heap[fb]? = some (.cells #[.int .i64 (room : Nat), .slice a' D'.length cap'] 69 (0, 0))
theorem mid1 {wr w5 : World} {S S' : Nat → Prop} {room k m db' : Nat} {vin : Value} {D D' : Files} {a' : Option Addr} {cap' : Nat} (T1 : Has w5 S' db' room (k + 1) D') (T2 : ∀ j, S' j → S j ∨ wr.heap.size ≤ j) (T3 : Upd S wr.drew w5) (T4 : FilesAt w5 (.slice a' D'.length cap') D') (T5 : Apart S' (.slice a' D'.length cap') D') (T6 : Grew D D' m)
    (T7 : Value.slice a' D'.length cap' = vin ∨ ∀ g, (Value.slice a' D'.length cap').ownBlock = some g → wr.heap.size ≤ g) : Mid wr (w5.alloc (.cells #[.int .i64 (room : Nat), .slice a' D'.length cap'] 69)) S room k vin D m db' a' cap' D' S' w5.heap.size := by
  have ua : Upd (fun _ => False) w5 (w5.alloc (.cells #[.int .i64 (room : Nat), .slice a' D'.length cap'] 69)) := (Upd.refl _ w5).alloc _
  exact ⟨T1.upd ua (fun _ _ f => f), T2, ((Upd.refl S wr).drew.trans T3 (fun _ _ h => h)).trans ua (fun _ _ f => f.elim), T4.upd0 ua, T5, T6, T7, heap_alloc _⟩
theorem mid2 {wr wp w5 : World} {S S' : Nat → Prop} {room k m db' : Nat} {vin : Value} {D D' : Files} {a' : Option Addr} {cap' : Nat} (hp : Upd (fun _ => False) wr wp) (hlt : wr.heap.size < wp.heap.size) (hS : ∀ j, S j → j < wr.heap.size) (hv : D' ≠ [] → ∀ g, vin.ownBlock = some g → Value.slice a' D'.length cap' = vin → g < wr.heap.size)
    (T1 : Has w5 S' db' room (k + 1) D') (T2 : ∀ j, S' j → S j ∨ wp.heap.size ≤ j) (T3 : Upd S wp w5) (T4 : FilesAt w5 (.slice a' D'.length cap') D') (T5 : Apart S' (.slice a' D'.length cap') D') (T6 : Grew D D' m)
    (T7 : Value.slice a' D'.length cap' = vin ∨ ∀ g, (Value.slice a' D'.length cap').ownBlock = some g → wp.heap.size ≤ g) (hb : w5.heap[wr.heap.size]? = some (.cells #[.int .i64 0, .slice none 0 0] 69 (0, 0))) :
    Mid wr ((w5.setCell ⟨wr.heap.size, 0, none⟩ (.int .i64 (room : Nat))).setCell ⟨wr.heap.size, 1, none⟩ (.slice a' D'.length cap')) S room k vin D m db' a' cap' D' S' wr.heap.size := by
  have hu : Upd (fun j => j = wr.heap.size) w5 ((w5.setCell ⟨wr.heap.size, 0, none⟩ (.int .i64 (room : Nat))).setCell ⟨wr.heap.size, 1, none⟩ (.slice a' D'.length cap')) := upd2
  refine ⟨T1.upd hu (fun j hj e => ?_), fun j hj => (T2 j hj).imp id (fun e => by omega), ((hp.mono (T := S) (fun _ _ f => f.elim)).trans T3 (fun _ _ h => h)).trans hu (fun i hi e => by omega), T4.updS hu (fun hne g hg e => ?_), T5, T6, T7.imp id (fun h g hg => by have := h g hg; omega), cells2 hb⟩
  · rcases T2 j hj with h | h
    · have := hS j h; omega
    · omega
  · rcases T7 with h | h
    · have := hv hne g (by rw [← h]; exact hg) h; omega
    · have := h g hg; omega
theorem synced_of (D : Files) (s : ByteArray) : syncedD D s = (ofD D s).1.synced := by
  unfold syncedD ofD
  cases get En D s <;> rfl
theorem read_of {room : Nat} {D : Files} (h : May room D) {j : Nat} (hj : j < D.length) : readD D D[j].name = (D[j].bytes, 0) := by
  unfold readD
  rw [show get En D D[j].name = some D[j] from get_of En h.srt (List.getElem_mem hj)]
/-- a list that may be written -/
def WrAt (w : World) (v : Value) (n : Nat) : Prop := n = 0 ∨ ∃ (lb cap : Nat) (cur : Array Value), v = .slice (some ⟨lb, 0, none⟩) n cap ∧ w.heap[lb]? = some (.cells cur 9 (0, 0)) ∧ n ≤ cur.size
theorem wrAt_own {w : World} {base : Nat} {v : Value} {ss : List ByteArray} (h : OwnStrs w base v ss) : WrAt w v ss.length := by
  obtain ⟨h1, h2⟩ := h
  rcases h2 with ⟨rfl, h3⟩ | ⟨g, cap, cur, rfl, hb, hg, h4, h5, h6, h7⟩
  · left
    exact h3
  · refine .inr ⟨g, cap, cur, rfl, hg, ?_⟩
    have := congrArg List.length h7
    simp at this
    omega
theorem ps_start {w0 w w' : World} {S : Nat → Prop} {db room : Nat} (h : Has w S db room 0 []) (hl : ∀ j, S j → w0.heap.size ≤ j) (hu : Upd (fun _ => False) w0 w) (hu2 : Upd (fun _ => False) w w') :
    PS w0 (w'.alloc (.cells #[.int .i64 (room : Nat), .slice none 0 0] 69)) S db w'.heap.size room 0 [] none 0 := by
  have ua : Upd (fun _ => False) w' (w'.alloc (.cells #[.int .i64 (room : Nat), .slice none 0 0] 69)) := (Upd.refl _ w').alloc _
  have hb := has_below h
  exact ⟨(h.upd hu2 (fun _ _ f => f)).upd ua (fun _ _ f => f), hl, (hu.trans hu2 (fun _ _ f => f)).trans ua (fun _ _ f => f), RowAt.nil _ 3, fun hne => (hne rfl).elim, heap_alloc _,
    fun s => by have := hb _ s; have := hu2.size; omega, (hu.trans hu2 (fun _ _ f => f)).size, fun hne => (hne rfl).elim, Nat.le_refl _, by simp [total]⟩
set_option maxHeartbeats 4000000 in
set_option maxRecDepth 100000 in
theorem dplays_any (R : Int) (a : Option Addr) (len cap : Nat) (w : World) (hR : -9223372036854775808 ≤ R ∧ R ≤ 9223372036854775807) (hd : Dos w a len) (hdb : DosB w a len) (hlen : len ≤ maxLen) :
    Calls Try.prog 15 #[.int .i64 R, .slice a len cap] w (Fresh true w) := by
  have HD := Lib.hid hd
  have HDB := Lib.hid hdb
  have HL := Lib.hid hlen
  unfold maxLen at hlen
  clear hd hdb
  go_enter Try.func15, Try.ntmps15
  go_wp2_with fail
  refine (d_new R w w (Upd.refl _ _) hR).mono ?_
  rintro e w2 ⟨db0, rfl, S0, i1, i2, i3⟩
  go_wp2_with fail
  refine (rnew_any R _ hR).mono ?_
  rintro e w3 ⟨rfl, hu3⟩
  have hP := ps_start i1 i2 i3 hu3
  have hroom : R.toNat ≤ 9223372036854775807 := by omega
  clear i1 i2 i3 hu3
  go_upto_region 5 with fail
  have hmx : max R 0 = ((R.toNat : Nat) : Int) := by omega
  try rw [hmx]
  clear hmx
  generalize R.toNat = room at *
  generalize w3.alloc (.cells #[.int .i64 (room : Nat), .slice none 0 0] 69) = w4 at *
  generalize w3.heap.size = mb at *
  have HP0 := Lib.hid hP
  clear hP
  go_upto_block 0 with fail
  go_cut [5] (fun d wx => ∃ (k db : Nat) (D : Files) (S : Nat → Prop) (a' : Option Addr) (cap' : Nat), d = .pointer (some ⟨db, 0, none⟩) ∧ k ≤ 200 ∧ PS w wx S db mb room k D a' cap')
  case first =>
    go_wp2_with fail
    go_loopw [5, 7] (fun d i wr => ∃ (k db : Nat) (D : Files) (S : Nat → Prop) (a' : Option Addr) (cap' : Nat), d = .pointer (some ⟨db, 0, none⟩) ∧ i = .int .i64 k ∧ k ≤ len ∧ k ≤ 200 ∧ PS w wr S db mb room k D a' cap') (fun _ i _ => len - (intOf i).toNat)
    case atStart => exact ⟨0, db0, [], S0, none, 0, rfl, rfl, by omega, by omega, HP0.out⟩
    case round =>
      obtain ⟨k, db, D, S, fa, fcap, rfl, rfl, hk, hk200, h⟩ := hrel
      by_cases hgo : k < len ∧ k < 200
      · obtain ⟨hg1, hg2⟩ := hgo
        obtain ⟨g, o, kk, nm, dt, ka, kl, kc, zs, rfl, c0, c1, c2, c3, hkk, hnm, hdt, hz, rfl, hzw⟩ := HD.out k hg1
        obtain ⟨hb1, hb2⟩ := HDB.out k hg1 g o rfl
        have hdt2 := hb1 dt c2
        have hkb := hb2 ka zs.length kc c3
        have hgl : g < w.heap.size := World.block_lt_of_cell? w _ c0
        have hcs : ∀ w' : World, Upd (fun _ => False) w w' → w'.cell? ⟨g, o + k * 4, none⟩ = some (.int .i64 kk) ∧ w'.cell? ⟨g, o + k * 4 + 1, none⟩ = some (.string nm) ∧ w'.cell? ⟨g, o + k * 4 + 2, none⟩ = some (.string dt) ∧ w'.cell? ⟨g, o + k * 4 + 3, none⟩ = some (.slice ka zs.length kc) := fun w' hu => ⟨cell_upd hu c0 (fun f => f), cell_upd hu c1 (fun f => f), cell_upd hu c2 (fun f => f), cell_upd hu c3 (fun f => f)⟩
        have HCS := Lib.hid hcs
        have hst : ∀ w', Upd (fun _ => False) wr w' → Calls Try.prog 52 #[.pointer (some ⟨db, 0, none⟩), .agg #[.int .i64 (room : Nat), .slice fa D.length fcap], .agg #[.int .i64 kk, .string nm, .string dt, .slice ka zs.length kc]] w' (StepPost S w' room k (.slice fa D.length fcap) D dt.size) := by
          intro w' hw'
          have h' := h.next hw'
          have hl := h.len
          have ht := h.tot
          have hzr : IntsAt .i64 w' (.slice ka zs.length kc) zs := IntsAt.upd0 hz h'.upd
          refine dstep_any h'.has h'.files h'.apart kk nm dt hnm hdt2 ka zs.length kc zs rfl hkb hzr hzw (fun hne g2 hg2 hs => ?_) (by omega) (by omega) (by omega) hroom hkk
          obtain ⟨g', o', e', hc⟩ := hz.cell (i := 0) (List.length_pos_iff.2 hne)
          have h1 := World.block_lt_of_cell? w _ hc
          have h2 := h.low g2 hs
          subst e'
          simp [Value.ownBlock] at hg2
          simp only at h1
          omega
        have HST := Lib.hid hst
        have H := Lib.hid h
        clear hst hcs c0 c1 c2 c3 hz hzw hb1 hb2
        obtain ⟨b0, b1, z0, z1⟩ := h.cells
        obtain ⟨e0, e1, e2, e3⟩ := HCS.out wr h.upd
        clear h
        go_upto_region 8 with fail
        have hc0 : wr.drew.cell? ⟨mb, 0, none⟩ = some (.int .i64 (room : Nat)) ∧ wr.drew.cell? ⟨mb, 1, none⟩ = some (.slice fa D.length fcap) ∧ wr.drew.cell? ⟨g, o + k * 4, none⟩ = some (.int .i64 kk) ∧ wr.drew.cell? ⟨g, o + k * 4 + 1, none⟩ = some (.string nm) ∧ wr.drew.cell? ⟨g, o + k * 4 + 2, none⟩ = some (.string dt) ∧ wr.drew.cell? ⟨g, o + k * 4 + 3, none⟩ = some (.slice ka zs.length kc) := ⟨b0, b1, e0, e1, e2, e3⟩
        have HC0 := Lib.hid hc0
        have hua : Upd (fun _ => False) wr (wr.alloc (.cells #[.int .i64 0, .slice none 0 0] 69)).drew := ((Upd.refl _ wr).alloc _).drew
        have hbx : (wr.alloc (.cells #[.int .i64 0, .slice none 0 0] 69)).drew.heap[wr.heap.size]? = some (.cells #[.int .i64 0, .slice none 0 0] 69 (0, 0)) := heap_alloc (w := wr) _
        have hkp : ∀ (wp w5 : World), Upd (fun _ => False) wr wp → Upd S wp w5 → w5.cell? ⟨mb, 0, none⟩ = some (.int .i64 (room : Nat)) ∧ w5.cell? ⟨mb, 1, none⟩ = some (.slice fa D.length fcap) ∧ w5.cell? ⟨g, o + k * 4, none⟩ = some (.int .i64 kk) ∧ w5.cell? ⟨g, o + k * 4 + 1, none⟩ = some (.string nm) ∧ w5.cell? ⟨g, o + k * 4 + 2, none⟩ = some (.string dt) ∧ w5.cell? ⟨g, o + k * 4 + 3, none⟩ = some (.slice ka zs.length kc) := fun wp w5 hp h5 => by
          have hq := (hp.mono (T := S) (fun _ _ f => f.elim)).trans h5 (fun _ _ h => h)
          have hg2 : ¬ S g := fun s => by have := H.out.low g s; omega
          exact ⟨cell_upd hq b0 H.out.nS, cell_upd hq b1 H.out.nS, cell_upd hq e0 hg2, cell_upd hq e1 hg2, cell_upd hq e2 hg2, cell_upd hq e3 hg2⟩
        have HKP := Lib.hid hkp
        have hmbl : mb < wr.heap.size := lt_of_heap H.out.box
        have hgl2 : g < wr.heap.size := Nat.lt_of_lt_of_le hgl H.out.upd.size
        have HVI : Hid (∀ (a' : Option Addr) (cap' : Nat) (D' : Files), D' ≠ [] → ∀ g, (Value.slice fa D.length fcap).ownBlock = some g → Value.slice a' D'.length cap' = .slice fa D.length fcap → g < wr.heap.size) := fun a' cap' D' hne g hg e => by
          have hl : D'.length = D.length := by simp only [Value.slice.injEq] at e; exact e.2.1
          exact H.out.files.lt (fun e2 => by subst e2; exact hne (List.eq_nil_of_length_eq_zero hl)) g hg
        have HUA := Lib.hid hua
        have HBX := Lib.hid hbx
        clear hkp hua hbx b0 b1 e0 e1 e2 e3 z0 z1 hc0
        have hc0 := HC0.out
        obtain ⟨b0, b1, e0, e1, e2, e3⟩ := hc0
        go_cut [8, 9, 10] (fun s8 s9 s10 wx => ∃ db' a' cap' D' S' fb, s8 = .pointer (some ⟨db', 0, none⟩) ∧ s9 = .pointer (some ⟨fb, 0, none⟩) ∧ s10 = .bool true ∧ Mid wr wx S room k (.slice fa D.length fcap) D dt.size db' a' cap' D' S' fb)
        case first =>
          go_region_held3 (fun w' => w'.cell? ⟨mb, 0, none⟩ = some (.int .i64 (room : Nat)) ∧ w'.cell? ⟨mb, 1, none⟩ = some (.slice fa D.length fcap) ∧ w'.cell? ⟨g, o + k * 4, none⟩ = some (.int .i64 kk) ∧ w'.cell? ⟨g, o + k * 4 + 1, none⟩ = some (.string nm) ∧ w'.cell? ⟨g, o + k * 4 + 2, none⟩ = some (.string dt) ∧ w'.cell? ⟨g, o + k * 4 + 3, none⟩ = some (.slice ka zs.length kc)) (first | exact HC0.out | exact hcs5 | exact HKP.out _ _ HUA.out (Upd.refl _ _) | exact HKP.out _ _ (Upd.refl _ wr).drew (T3.out.alloc _) | exact ⟨cell_upd upd2 hcs5.1 (fun e => by omega), cell_upd upd2 hcs5.2.1 (fun e => by omega), cell_upd upd2 hcs5.2.2.1 (fun e => by omega), cell_upd upd2 hcs5.2.2.2.1 (fun e => by omega), cell_upd upd2 hcs5.2.2.2.2.1 (fun e => by omega), cell_upd upd2 hcs5.2.2.2.2.2 (fun e => by omega)⟩) (first | (go_at_call 52; refine (HST.out wr.drew (Upd.refl _ wr).drew).mono ?_; rintro e w5 ⟨db', a', cap', D', S', rfl, s1, s2, s3, s4, s5, s6, s7⟩; have hcs5 := HKP.out _ w5 (Upd.refl _ wr).drew s3; have T1 := Lib.hid s1; have T2 := Lib.hid s2; have T3 := Lib.hid s3; have T4 := Lib.hid s4; have T5 := Lib.hid s5; have T6 := Lib.hid s6; have T7 := Lib.hid s7; clear s1 s2 s3 s4 s5 s6 s7) | (go_at_call 52; refine (HST.out _ HUA.out).mono ?_; rintro e w5 ⟨db', a', cap', D', S', rfl, s1, s2, s3, s4, s5, s6, s7⟩; have hcs5 := HKP.out _ w5 HUA.out s3; have hb5 := s3.keep HBX.out (fun s => by have := has_below H.out.has _ s; omega); have y0 := cell_of_heap hb5 0; have y1 := cell_of_heap hb5 1; have y2 := frozen_of_heap hb5 0 none; have y3 := frozen_of_heap hb5 1 none; simp only [List.getElem?_toArray, List.getElem?_cons_zero, List.getElem?_cons_succ] at y0 y1; have HB5 := Lib.hid hb5; have T1 := Lib.hid s1; have T2 := Lib.hid s2; have T3 := Lib.hid s3; have T4 := Lib.hid s4; have T5 := Lib.hid s5; have T6 := Lib.hid s6; have T7 := Lib.hid s7; clear s1 s2 s3 s4 s5 s6 s7 hb5))
          all_goals go_wp2_with fail
          all_goals go_meet
          case rel => exact ⟨db', a', cap', D', S', _, rfl, rfl, rfl, mid1 T1.out T2.out T3.out T4.out T5.out T6.out T7.out⟩
          case rel => exact ⟨db', a', cap', D', S', _, rfl, rfl, rfl, mid2 HUA.out (by simp) (has_below H.out.has) (HVI.out a' cap' D') T1.out T2.out T3.out T4.out T5.out T6.out T7.out HB5.out⟩
        case rest =>
          obtain ⟨db', a', cap', D', S', fb, rfl, rfl, rfl, hmid⟩ := hcut
          have hstep := fun (m5 : Unit) => PS.step H.out hmid.has hmid.low hmid.upd hmid.files hmid.apart hmid.grew hmid.same hdt2 (Upd.refl _ _)
          have hbx := hmid.upd.keep H.out.box H.out.nS
          have y0 := cell_of_heap hmid.box 0
          have y1 := cell_of_heap hmid.box 1
          have y2 := cell_of_heap hbx 0
          have y3 := cell_of_heap hbx 1
          have y4 := frozen_of_heap hbx 0 none
          have y5 := frozen_of_heap hbx 1 none
          simp only [List.getElem?_toArray, List.getElem?_cons_zero, List.getElem?_cons_succ] at y0 y1 y2 y3
          have HST2 := Lib.hid (hstep ())
          clear hstep hbx hmid b0 b1 e0 e1 e2 e3
          go_upto_region 13 with fail
          clear y0 y1 y2 y3 y4 y5
          have h10 := HST2.out
          generalize (wc.setCell ⟨mb, 0, none⟩ (.int .i64 (room : Nat))).setCell ⟨mb, 1, none⟩ (.slice a' D'.length cap') = w10 at *
          have H10 := Lib.hid h10
          clear h10
          have hua : Upd (fun _ => False) w10 (w10.alloc (.cells #[.string ⟨#[]⟩, .string ⟨#[]⟩, .int .i64 0] 76)).drew := ((Upd.refl _ w10).alloc _).drew
          have hbx : (w10.alloc (.cells #[.string ⟨#[]⟩, .string ⟨#[]⟩, .int .i64 0] 76)).drew.heap[w10.heap.size]? = some (.cells #[.string ⟨#[]⟩, .string ⟨#[]⟩, .int .i64 0] 76 (0, 0)) := heap_alloc (w := w10) _
          have hkp : ∀ w' : World, Upd (fun _ => False) w10 w' → (w'.cell? ⟨mb, 0, none⟩ = some (.int .i64 (room : Nat)) ∧ w'.cell? ⟨mb, 1, none⟩ = some (.slice a' D'.length cap')) ∧ w'.cell? ⟨g, o + k * 4 + 1, none⟩ = some (.string nm) ∧ w'.cell? ⟨g, o + k * 4 + 2, none⟩ = some (.string dt) := fun w' hu => by
            have h' := H10.out.next hu
            obtain ⟨x0, x1, _, _⟩ := h'.cells
            obtain ⟨_, e1, e2, _⟩ := HCS.out w' h'.upd
            exact ⟨⟨x0, x1⟩, e1, e2⟩
          have HKP2 := Lib.hid hkp
          have HUA2 := Lib.hid hua
          have HBX2 := Lib.hid hbx
          have hof : ∀ w', Upd (fun _ => False) w10 w' → Calls Try.prog 53 #[.agg #[.int .i64 (room : Nat), .slice a' D'.length cap'], .string nm] w' (OfPost D' nm w') := fun w' hu => of_ref rfl (H10.out.next hu).files (H10.out.has.may.srt) nm
          have HOF := Lib.hid hof
          clear hua hbx hkp hof
          obtain ⟨⟨b0, b1⟩, e1, e2⟩ := HKP2.out w10 (Upd.refl _ _)
          have hc0 := HKP2.out w10.drew (Upd.refl _ w10).drew
          have HC0 := Lib.hid hc0
          clear hc0
          have hsy := synced_of D' nm
          rw [show OfPost D' nm = fun w e w' => e = .returned (.tuple #[agE (ofD D' nm).1, .bool (ofD D' nm).2]) ∧ Upd (fun _ => False) w w' from rfl] at HOF
          generalize (ofD D' nm).1 = fE at *
          generalize (ofD D' nm).2 = fB at *
          have HSY := Lib.hid hsy
          clear hsy
          unfold agE at HOF
          go_cut [11] (fun s11 wx => ∃ fb2, s11 = .pointer (some ⟨fb2, 0, none⟩) ∧ Upd (fun _ => False) w10 wx ∧ wx.heap[fb2]? = some (.cells #[.string fE.name, .string fE.bytes, .int .i64 (fE.synced : Nat)] 76 (0, 0)))
          case first =>
            go_region_held3 (fun w' => (w'.cell? ⟨mb, 0, none⟩ = some (.int .i64 (room : Nat)) ∧ w'.cell? ⟨mb, 1, none⟩ = some (.slice a' D'.length cap')) ∧ w'.cell? ⟨g, o + k * 4 + 1, none⟩ = some (.string nm) ∧ w'.cell? ⟨g, o + k * 4 + 2, none⟩ = some (.string dt)) (first | exact HC0.out | exact hcs5 | exact HKP2.out _ HUA2.out | exact HKP2.out _ (hu5.alloc _) | exact HKP2.out _ (hu5.trans (upd3 (b := w10.heap.size)) (fun i hi e => absurd (e ▸ hi) (Nat.lt_irrefl _)))) (first | (go_at_call 53; refine (HOF.out w10.drew (Upd.refl _ w10).drew).mono ?_; rintro e w5 ⟨rfl, u5⟩; have hu5 := (Upd.refl (fun _ => False) w10).drew.trans u5 (fun _ _ f => f); have hcs5 := HKP2.out w5 hu5; clear u5) | (go_at_call 53; refine (HOF.out _ HUA2.out).mono ?_; rintro e w5 ⟨rfl, u5⟩; have hu5 := HUA2.out.trans u5 (fun _ _ f => f); have hcs5 := HKP2.out w5 hu5; have hb5 := u5.keep HBX2.out (fun f => f); have y0 := cell_of_heap hb5 0; have y1 := cell_of_heap hb5 1; have y2 := cell_of_heap hb5 2; have y3 := frozen_of_heap hb5 0 none; have y4 := frozen_of_heap hb5 1 none; have y5 := frozen_of_heap hb5 2 none; simp only [List.getElem?_toArray, List.getElem?_cons_zero, List.getElem?_cons_succ] at y0 y1 y2; have HB5 := Lib.hid hb5; clear u5 hb5))
            all_goals go_wp2_with fail
            all_goals go_meet
            case rel => exact ⟨_, rfl, hu5.alloc _, heap_alloc _⟩
            case rel => exact ⟨_, rfl, hu5.trans (upd3 (b := w10.heap.size)) (fun i hi e => absurd (e ▸ hi) (Nat.lt_irrefl _)), cells3 HB5.out⟩
          case rest =>
            obtain ⟨fb2, rfl, hu11, hfb⟩ := hcut
            have h11 := H10.out.next hu11
            clear b0 b1 e1 e2
            obtain ⟨⟨b0, b1⟩, e1, e2⟩ := HKP2.out _ hu11
            have H11 := Lib.hid h11
            have HFB := Lib.hid hfb
            have HUE := Lib.hid hu11
            clear h11 hfb hu11
            go_wp2_with fail
            refine (list_any H11.out.has dt (by omega)).mono ?_
            rintro e w12 ⟨v, rfl, o1, hu12⟩
            obtain ⟨la, lcap, rfl⟩ := (StrsAt.of_own o1).slice
            have HO1 := Lib.hid o1
            have h12 := H11.out.next hu12
            have hf12 := hu12.keep HFB.out (fun f => f)
            have hu1012 := HUE.out.trans hu12 (fun _ _ f => f)
            have hkc : ∀ w' : World, Upd (fun _ => False) w12 w' → (w'.cell? ⟨mb, 0, none⟩ = some (.int .i64 (room : Nat)) ∧ w'.cell? ⟨mb, 1, none⟩ = some (.slice a' D'.length cap')) ∧ w'.cell? ⟨g, o + k * 4 + 1, none⟩ = some (.string nm) ∧ w'.cell? ⟨g, o + k * 4 + 2, none⟩ = some (.string dt) ∧ w'.cell? ⟨fb2, 2, none⟩ = some (.int .i64 (fE.synced : Nat)) := fun w' hu => by
              obtain ⟨x, y, z⟩ := HKP2.out w' (hu1012.trans hu (fun _ _ f => f))
              exact ⟨x, y, z, cell_of_heap (hu.keep hf12 (fun f => f)) 2⟩
            have HKC := Lib.hid hkc
            have hmay := h12.has.may
            have hcalls : ∃ fr : Int, (∀ w', Upd (fun _ => False) w12 w' → Calls Try.prog 54 #[.pointer (some ⟨db', 0, none⟩)] w' fun e w'' => e = .returned (.int .i64 fr) ∧ Upd (fun _ => False) w' w'') ∧ (∀ w', Upd (fun _ => False) w12 w' → Calls Try.prog 55 #[.agg #[.int .i64 (room : Nat), .slice a' D'.length cap']] w' fun e w'' => e = .returned (.int .i64 fr) ∧ Upd (fun _ => False) w' w'') := by
              refine ⟨(room : Int) - (total D' : Nat), fun w' hu => ?_, fun w' hu => ?_⟩
              · refine (free_any (h12.next hu).has).mono ?_
                rintro e w'' ⟨rfl, hx⟩
                have hfits := hmay.fits
                exact ⟨by rw [show ((room - total D' : Nat) : Int) = (room : Int) - (total D' : Nat) from by omega], hx⟩
              · exact rfree_any rfl (h12.next hu).files hroom hmay.fits
            obtain ⟨fr, h54, h55⟩ := hcalls
            have h48 : ∀ w', Upd (fun _ => False) w12 w' → Calls Try.prog 48 #[.pointer (some ⟨db', 0, none⟩), .string nm] w' fun e w'' => e = .returned (.int .i64 (fE.synced : Nat)) ∧ w' = w'' := fun w' hu => by
              rw [← HSY.out]
              exact synced_any (h12.next hu).has nm hnm
            have h57 : ∀ w', Upd (fun _ => False) w12 w' → Calls Try.prog 57 #[.agg #[.int .i64 (room : Nat), .slice a' D'.length cap'], .string dt] w' (ListPost (listD D' dt) w') := fun w' hu => rlist_any rfl (h12.next hu).files dt (by have := h12.len; omega)
            have hss : StrsAt w12 (.slice la (listD D' dt).length lcap) (listD D' dt) := StrsAt.of_own o1
            have HH12 := Lib.hid h12
            clear h12 hf12 hmay hkc b0 b1 e1 e2 hu12 hu1012
            generalize listD D' dt = ss at *
            have hsb : ss.length ≤ 9223372036854775807 := by have := hss.bound; unfold maxLen at this; omega
            have H54 := Lib.hid h54
            have H55 := Lib.hid h55
            have H48 := Lib.hid h48
            have H57 := Lib.hid h57
            have HSS := Lib.hid hss
            clear h54 h55 h48 h57 hss o1
            have hud : Upd (fun _ => False) w12 w12.drew := (Upd.refl _ w12).drew
            have HUd := Lib.hid hud
            have cs0 := HKC.out w12.drew hud
            clear hud
            obtain ⟨⟨b0, b1⟩, e1, e2, e3⟩ := HKC.out w12 (Upd.refl _ _)
            go_wp2_with fail
            go_region_held3 (fun w' => (w'.cell? ⟨mb, 0, none⟩ = some (.int .i64 (room : Nat)) ∧ w'.cell? ⟨mb, 1, none⟩ = some (.slice a' D'.length cap')) ∧ w'.cell? ⟨g, o + k * 4 + 1, none⟩ = some (.string nm) ∧ w'.cell? ⟨g, o + k * 4 + 2, none⟩ = some (.string dt) ∧ w'.cell? ⟨fb2, 2, none⟩ = some (.int .i64 (fE.synced : Nat))) (first | exact cs0 | exact csA | exact csB | exact csD | exact csE) (first | (go_at_call 54; refine (H54.out _ HUd.out).mono ?_; rintro e wA ⟨rfl, u1⟩; have huA := HUd.out.trans u1 (fun _ _ f => f); have csA := HKC.out wA huA; clear u1) | (go_at_call 55; refine (H55.out _ huA).mono ?_; rintro e wB ⟨rfl, u1⟩; have huB := huA.trans u1 (fun _ _ f => f); have csB := HKC.out wB huB; clear u1) | (go_at_call 48; refine (H48.out _ huB).mono ?_; rintro e wC ⟨rfl, rfl⟩) | (go_at_call 57; refine (H57.out _ huB).mono ?_; rintro e wD ⟨v2, rfl, o2, u1⟩; obtain ⟨lb2, lc2, rfl⟩ := (StrsAt.of_own o2).slice; have huD := huB.trans u1 (fun _ _ f => f); have csD := HKC.out wD huD; have HS2 := Lib.hid (StrsAt.of_own o2); clear u1 o2) | (go_at_call 56; refine (rsame_any rfl (HSS.out.upd0 huD) HS2.out).mono ?_; rintro e wE ⟨rfl, u1⟩; have huE := huD.trans u1 (fun _ _ f => f); have csE := HKC.out wE huE; clear u1))
            go_wp2_with fail
            have hwE := wrAt_own (HO1.out.upd0 huE)
            have HPE := Lib.hid (HH12.out.next huE)
            clear csA csB csD csE cs0 b0 b1 e1 e2 e3
            go_loopw [14] (fun i wz => ∃ j : Nat, i = .int .i64 j ∧ j ≤ ss.length ∧ Upd (fun q => (Value.slice la ss.length lcap).ownBlock = some q) wE wz ∧ WrAt wz (.slice la ss.length lcap) ss.length) (fun i _ => ss.length - (intOf i).toNat)
            case atStart => exact ⟨0, rfl, by omega, Upd.refl _ _, hwE⟩
            case round =>
              obtain ⟨j, rfl, hj, huz, hwr⟩ := hrel
              clear hwE
              by_cases hlt : j < ss.length
              · rcases hwr with h0 | ⟨lb, cc, cur, hv, hbk, hcur⟩
                · omega
                · simp only [Value.slice.injEq] at hv
                  obtain ⟨rfl, _, rfl⟩ := hv
                  have q0 := cell_of_heap hbk j
                  rw [Array.getElem?_eq_getElem (by omega)] at q0
                  have q1 := frozen_of_heap hbk j none
                  generalize cur[j] = old at q0
                  have hw2 : WrAt (wr.setCell ⟨lb, j, none⟩ (.string ⟨#[120]⟩)) (.slice (some ⟨lb, 0, none⟩) ss.length lcap) ss.length := .inr ⟨lb, lcap, _, rfl, heap_setCell hbk _, by simpa using hcur⟩
                  have hu2 := huz.setCell (p := ⟨lb, j, none⟩) (fun _ => rfl) (.string ⟨#[120]⟩)
                  have HW2 := Lib.hid hw2
                  have HBK := Lib.hid hbk
                  clear hw2 hbk
                  go_wp2_with fail
                  exact ⟨⟨j + 1, by go_num, by omega, hu2, HW2.out⟩, by simp [intOf]; omega⟩
              · have hge : ¬ (j : Int) < (ss.length : Int) := by omega
                have hfin := HPE.out.write huz (fun q hq => (HO1.out.lt q hq).1) (has_below H11.out.has) (lt_of_heap H11.out.box) (fun hne => H11.out.files.lt hne) H11.out.upd.size
                clear hwr
                go_wp2_with fail
                exact ⟨⟨k + 1, db', D', S', a', cap', rfl, by go_num, by omega, by omega, hfin⟩, by simp [intOf]; omega⟩
      · by_cases hge : (k : Int) < (len : Int)
        · have hg200 : ¬ (k : Int) < 200 := by omega
          go_wp2_with fail
          go_meet
          case rel => exact ⟨k, db, D, S, fa, fcap, rfl, hk200, h⟩
        · go_wp2_with fail
          go_meet
          case rel => exact ⟨k, db, D, S, fa, fcap, rfl, hk200, h⟩
  case rest =>
    obtain ⟨k, db, D, S, fa, fcap, rfl, hk200, h⟩ := hcut
    have H := Lib.hid h
    obtain ⟨b0, b1, _, _⟩ := h.cells
    have hlD : D.length ≤ 9223372036854775807 := by have := h.len; omega
    clear h
    go_wp2_with fail
    go_loop [15] (fun i => ∃ j : Nat, i = .int .i64 j ∧ j ≤ D.length) (fun i => D.length - (intOf i).toNat)
    case atStart => exact ⟨0, rfl, by omega⟩
    case round =>
      obtain ⟨j, rfl, hj⟩ := hrel
      by_cases hlt : j < D.length
      · obtain ⟨g, o, rfl, c0, c1, c2⟩ := H.out.files.cell hlt
        have hrd := read_of H.out.has.may hlt
        have hnz : D[j].name.size ≤ maxLen := nameOk_max (H.out.has.may.names _ (List.getElem_mem hlt))
        have hlti : (j : Int) < (D.length : Int) := by omega
        generalize D[j].name = nm at *
        generalize D[j].bytes = bs at *
        have HRD := Lib.hid hrd
        have hl : (bs.toList == bs.toList) = true := by simp
        clear hrd c2
        go_wp2_with fail
        refine (read_any H.out.has nm hnz).mono ?_
        rintro e w' ⟨rfl, rfl⟩
        rw [HRD.out]
        go_wp2_with fail
        exact ⟨⟨j + 1, by go_num, by omega⟩, by simp [intOf]; omega⟩
      · have hge : ¬ (j : Int) < (D.length : Int) := by omega
        have hk6 : k ≤ 1000000 := by omega
        have hc : ∀ w' : World, Upd (fun _ => False) wc w' → w'.cell? ⟨mb, 0, none⟩ = some (.int .i64 (room : Nat)) ∧ w'.cell? ⟨mb, 1, none⟩ = some (.slice fa D.length fcap) := fun w' hu => by
          obtain ⟨x0, x1, _, _⟩ := (H.out.next hu).cells
          exact ⟨x0, x1⟩
        have HC := Lib.hid hc
        have hud : Upd (fun _ => False) wc wc.drew := (Upd.refl _ wc).drew
        have HUd := Lib.hid hud
        have cs0 := HC.out _ hud
        clear hud hc
        go_wp2_with fail
        go_region_held3 (fun w' => w'.cell? ⟨mb, 0, none⟩ = some (.int .i64 (room : Nat)) ∧ w'.cell? ⟨mb, 1, none⟩ = some (.slice fa D.length fcap)) (first | exact cs0 | exact csA | exact csB | exact csD | exact csE) (first | (go_at_call 45; refine (list_any (H.out.next HUd.out).has ⟨#[]⟩ hk6).mono ?_; rintro e wA ⟨v1, rfl, o1, u1⟩; obtain ⟨la, lc, rfl⟩ := (StrsAt.of_own o1).slice; have HS1 := Lib.hid (StrsAt.of_own o1); have huA := HUd.out.trans u1 (fun _ _ f => f); have csA := HC.out wA huA; clear u1 o1) | (go_at_call 57; refine (rlist_any rfl (H.out.next huA).files ⟨#[]⟩ (by have := H.out.len; omega)).mono ?_; rintro e wB ⟨v2, rfl, o2, u2⟩; obtain ⟨lb2, lc2, rfl⟩ := (StrsAt.of_own o2).slice; have HS2 := Lib.hid (StrsAt.of_own o2); have HS3 := Lib.hid (HS1.out.upd0 u2); have huB := huA.trans u2 (fun _ _ f => f); have csB := HC.out wB huB; clear u2 o2) | (go_at_call 56; refine (rsame_any rfl HS3.out HS2.out).mono ?_; rintro e wD ⟨rfl, u3⟩; have huD := huB.trans u3 (fun _ _ f => f); have csD := HC.out wD huD; clear u3) | (go_at_call 41; refine (dworks_any _).mono ?_; rintro e wE ⟨rfl, u4⟩; have huE := huD.trans u4 (fun _ _ f => f); have csE := HC.out wE huE; clear u4))
        go_wp2_with fail
        go_ret
        exact ⟨rfl, H.out.upd.trans huE (fun _ _ f => f)⟩
theorem dplays_all (R : Int) (a : Option Addr) (len cap : Nat) (w : World) (hR : (Lit.int .i64 R).wf = true) (hd : (Dos w a len ∧ len ≤ maxLen) ∧ DosB w a len) : Calls Try.prog 15 #[.int .i64 R, .slice a len cap] w (Fresh true w) :=
  dplays_any R a len cap w (int_of_wf hR) hd.1.1 hd.2 hd.1.2
end Go.Proofs.Ytgkegfgdpekehaa
