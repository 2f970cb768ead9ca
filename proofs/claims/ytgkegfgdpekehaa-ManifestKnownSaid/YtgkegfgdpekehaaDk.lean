/- The walk of Copy. -/
import Derived.Test.YtgkegfgdpekehaaDi
import Derived.Maps.RangeWalk
import Derived.Maps.Ext
namespace Go.Proofs.Ytgkegfgdpekehaa
open Go.RowKit Go.Acre Go.Acre.Dk Go.Maps

theorem srt_ext {l1 l2 : Files} (h1 : Srt En l1) (h2 : Srt En l2) (h : ∀ x, x ∈ l1 ↔ x ∈ l2) : l1 = l2 := by
  induction l1 generalizing l2 with
  | nil =>
    cases l2 with
    | nil => rfl
    | cons y r => exact absurd ((h y).2 (by simp)) (by simp)
  | cons x r ih =>
    cases l2 with
    | nil => exact absurd ((h x).1 (by simp)) (by simp)
    | cons y s =>
      obtain ⟨a1, b1⟩ := List.pairwise_cons.1 h1
      obtain ⟨a2, b2⟩ := List.pairwise_cons.1 h2
      have hxy : x = y := by
        rcases List.mem_cons.1 ((h x).1 (by simp)) with e | hx
        · exact e
        · rcases List.mem_cons.1 ((h y).2 (by simp)) with e | hy
          · exact e.symm
          · have c1 := a2 x hx
            have c2 := a1 y hy
            rw [bf_asymm c1] at c2
            cases c2
      subst hxy
      congr 1
      refine ih b1 b2 fun z => ?_
      constructor
      · intro hz
        rcases List.mem_cons.1 ((h z).1 (by simp [hz])) with e | h'
        · have := a1 z hz
          rw [e, bf_irrefl] at this
          cases this
        · exact h'
      · intro hz
        rcases List.mem_cons.1 ((h z).2 (by simp [hz])) with e | h'
        · have := a2 z hz
          rw [e, bf_irrefl] at this
          cases this
        · exact h'
def seen (left : Lit → Bool) (D : Files) : Files := D.filter fun f => !left (key f.name)
theorem seen_srt {left : Lit → Bool} {D : Files} (h : Srt En D) : Srt En (seen left D) := List.Pairwise.filter _ h
theorem seen_step {left : Lit → Bool} {D : Files} (h : Srt En D) {f : Ent} (hf : f ∈ D) : put En f (seen left D) = seen (fun z => left z && !z.sameKey (key f.name)) D := by
  refine srt_ext (srt_put En (seen_srt h)) (seen_srt h) fun y => ?_
  rw [mem_put]
  unfold seen
  simp only [List.mem_filter, same_key, Bool.not_eq_true', Bool.and_eq_false_iff, Bool.not_eq_false', decide_eq_true_eq]
  constructor
  · rintro (rfl | ⟨⟨h1, h2⟩, h3⟩)
    · exact ⟨hf, .inr rfl⟩
    · exact ⟨h1, .inl h2⟩
  · rintro ⟨h1, h2 | h2⟩
    · by_cases e : En y = En f
      · exact .inl (srt_eq En h h1 hf e)
      · exact .inr ⟨⟨h1, h2⟩, e⟩
    · exact .inl (srt_eq En h h1 hf h2)
theorem seen_start (E : List EB) : seen (has (DataW.map (ents E))) (plain E) = [] := by
  unfold seen
  rw [List.filter_eq_nil_iff]
  intro f hf
  obtain ⟨x, hx, rfl⟩ := List.mem_map.1 hf
  simp only [has_eq, Bool.not_eq_true, Bool.not_eq_false', List.any_eq_true]
  exact ⟨_, List.mem_map.2 ⟨x, hx, rfl⟩, by rw [same_key]; simp⟩
theorem seen_end {left : Lit → Bool} {D : Files} (h : ∀ kl, left kl = false) : seen left D = D := by
  unfold seen
  rw [List.filter_eq_self]
  intro f _
  rw [h]
  rfl
def mkV : Option Nat → Value
  | none => .pointer none
  | some b => .pointer (some ⟨b, 0, none⟩)
theorem RB_inv (v : Value) (y : DataW Nat × List MemPlace) (h : RB v = some y) : ∃ c, v = mkV c := by
  unfold RB at h
  split at h
  · exact ⟨some _, rfl⟩
  · exact ⟨none, rfl⟩
  · cases h
theorem key_inv (k : Value) (kl : Lit) (h : keyOf Try.prog 9 k = some kl) : ∃ s, k = Value.string s := by
  obtain ⟨x, rfl, _⟩ := Maps.keyOf_str Try.underlying9 h
  exact ⟨_, rfl⟩
theorem key_is {s : ByteArray} {kl : Lit} (h : keyOf Try.prog 9 (.string s) = some kl) : kl = key s ∧ s.size ≤ maxLen := by
  obtain ⟨x, hx, rfl, hl⟩ := Maps.keyOf_str Try.underlying9 h
  simp only [encStr, Value.string.injEq] at hx
  subst hx
  refine ⟨rfl, ?_⟩
  show x.toArray.size ≤ maxLen
  simpa using hl
theorem at_some {E : List EB} {s : ByteArray} {d : DataW Nat} (h : ∀ zd, (DataW.map (ents E)).atKey (key s) zd = d) : ∃ f b, get Bn E s = some (f, b) ∧ d = .held b := by
  have h1 := h .nil
  have h2 := h (.held 0)
  rw [ents_at] at h1
  cases hg : get Bn E s with
  | some x => rw [hg] at h1; exact ⟨x.1, x.2, rfl, h1.symm⟩
  | none =>
    exfalso
    rw [hg] at h1
    have hh : has (DataW.map (ents E)) (key s) = false := by
      rw [has_eq, List.any_eq_false]
      intro p hp
      obtain ⟨x, hx, rfl⟩ := List.mem_map.1 hp
      rw [same_key]
      simpa using get_none Bn hg x hx
    rw [atKey_of_not_has hh] at h2
    rw [← h1] at h2
    cases h2

def CopyPost (room n : Nat) (D : Files) (w : World) (e : Ending) (w' : World) : Prop := ∃ db S, e = .returned (.pointer (some ⟨db, 0, none⟩)) ∧ Has w' S db room n D ∧ (∀ k, S k → w.heap.size ≤ k) ∧ Upd (fun _ => False) w w'
/-- the copy as far as it has come -/
structure Copying (w0 w : World) (dc mc room used : Nat) (E' : List EB) (m : Nat) : Prop where
  nodup : (E'.map fun x => x.2).Nodup
  file : ∀ x ∈ E', w0.heap.size ≤ x.2 ∧ fileAt w x
  map : w.ownsMap Try.prog 9 RB mc m (.map (ents E'))
  root : rootAt w dc room used mc
  low : w0.heap.size ≤ mc ∧ w0.heap.size ≤ dc
theorem Copying.end {w0 w : World} {dc mc room m : Nat} {E' : List EB} {D : Files} (h : Copying w0 w dc mc room (total D) E' m) (hp : plain E' = D) (hm : May room D) (hb : room ≤ 9223372036854775807) {n : Nat} (hmn : m ≤ n) :
    Has w (fun k => k = dc ∨ k = mc ∨ k ∈ E'.map fun x => x.2) dc room n D := by
  subst hp
  refine ⟨E', ⟨hm, hb, h.nodup, fun x hx => ⟨.inr (.inr (List.mem_map.2 ⟨x, hx, rfl⟩)), (h.file x hx).2⟩, .inl rfl, ?_, mc, .inr (.inl rfl), h.root, h.map.mono hmn⟩, rfl⟩
  rintro k (rfl | rfl | hk)
  · exact lt_of_heap h.root
  · exact h.map.lt
  · obtain ⟨x, hx, rfl⟩ := List.mem_map.1 hk
    exact lt_of_heap (h.file x hx).2

set_option maxHeartbeats 4000000 in
set_option maxRecDepth 100000 in
theorem copy_any {w : World} {S : Nat → Prop} {db room n : Nat} {D : Files} (h : Has w S db room n D) (hn : n ≤ 1000000) : Calls Try.prog 49 #[.pointer (some ⟨db, 0, none⟩)] w (CopyPost room n D w) := by
  obtain ⟨E, hE, rfl⟩ := h
  obtain ⟨mb, hmbS, hr, hmap⟩ := hE.root
  obtain ⟨c0, c1, c2, _⟩ := root_cells hr
  have hmm := @run_makeMap Try.prog
  have HE := Lib.hid hE
  have HM := Lib.hid hmap
  have HSB := Lib.hid hmbS
  obtain ⟨t, htt⟩ : ∃ t, t = total (plain E) := ⟨_, rfl⟩
  have HT := Lib.hid htt
  rw [← htt] at c1
  clear hE hr hmap hmbS htt
  go_enter Try.func49, Try.ntmps49
  go_wp2_with fail
  refine (none_some db mb _ c2).mono ?_
  rintro e w' ⟨rfl, rfl⟩
  go_wp2_with fail
  have hbelow := HE.out.below
  have HU3 : Hid (Upd (fun _ => False) w ((w.alloc (.map #[] 0)).alloc (.cells #[.int .i64 (room : Nat), .int .i64 (t : Nat), .map (some w.heap.size)] 85)).drew) := (((Upd.refl _ w).alloc _).alloc _).drew
  have hs3 : ((w.alloc (.map #[] 0)).alloc (.cells #[.int .i64 (room : Nat), .int .i64 (t : Nat), .map (some w.heap.size)] 85)).drew.heap.size = w.heap.size + 2 := by simp
  have HN3 : Hid (((w.alloc (.map #[] 0)).alloc (.cells #[.int .i64 (room : Nat), .int .i64 (t : Nat), .map (some w.heap.size)] 85)).drew.ownsMap Try.prog 9 RB w.heap.size 0 (.map [])) := ((World.ownsMap_made w Try.prog 9 RB).alloc _).drew
  have HR3 : Hid (rootAt ((w.alloc (.map #[] 0)).alloc (.cells #[.int .i64 (room : Nat), .int .i64 (t : Nat), .map (some w.heap.size)] 85)).drew (w.heap.size + 1) room t w.heap.size) := by
    have h1 : (w.alloc (.map #[] 0)).heap.size = w.heap.size + 1 := by simp
    have := heap_alloc (w := w.alloc (.map #[] 0)) (.cells #[.int .i64 (room : Nat), .int .i64 (t : Nat), .map (some w.heap.size)] 85)
    rw [h1] at this
    exact this
  go_region_held3 (fun w' => w'.cell? ⟨db, 0, none⟩ = some (.int .i64 (room : Nat)) ∧ w'.cell? ⟨db, 1, none⟩ = some (.int .i64 (t : Nat))) (go_keep) (fail)
  go_upto_region 4 with fail
  generalize ((w.alloc (.map #[] 0)).alloc (.cells #[.int .i64 (room : Nat), .int .i64 (t : Nat), .map (some w.heap.size)] 85)).drew = w3 at *
  have d2 := cell_upd HU3.out c2 (fun f => f)
  have HM3 : Hid (w3.ownsMap Try.prog 9 RB mb n (.map (ents E))) := map_upd HM.out HU3.out (fun f => f)
  have hsz : Maps.size (DataW.map (ents E)) ≤ n := HM.out.size_le
  obtain ⟨B, hB⟩ : ∃ B, B = w.heap.size := ⟨_, rfl⟩
  have HB := Lib.hid hB
  rw [← hB] at hs3 HN3 HR3 ⊢
  clear hB c0 c1 c2
  go_wp2_with (at_range; refine wpList_range_own _ rfl _ 83 rfl 9 122 keyed9 Try.underlying83 RB mb n (.map (ents E)) rfl HM3.out ?_)
  intro w4 hrg4 hg4 hs4
  try rw [hs3] at hs4
  have hu4 : Upd (fun _ => False) w3 w4 := (Upd.refl _ w3).of_grown hg4 (fun k hk _ => by cases hk)
  have HU4 := Lib.hid (HU3.out.trans hu4 (fun _ _ h => h))
  have HN4 : Hid (w4.ownsMap Try.prog 9 RB B 0 (.map [])) := map_upd HN3.out hu4 (fun f => f)
  have HR4 : Hid (rootAt w4 (B + 1) room t B) := HR3.out.upd hu4 (fun f => f)
  clear hg4 hu4
  go_wp2_with fail
  go_loopw [4] (fun _ wr => ∃ (left : Lit → Bool) (cnt : Nat) (E' : List EB), wr.ranges Try.prog 9 RB mb (B + 2) n (.map (ents E)) left cnt ∧ cnt ≤ Maps.size (DataW.map (ents E)) ∧ Hid (Copying w wr (B + 1) B room t E' (Maps.size (DataW.map (ents E)) - cnt)) ∧ Hid (plain E' = seen left (plain E)) ∧ Hid (Upd (fun _ => False) w wr))
    (fun _ wr => wr.rangeLeft mb (B + 2))
  case atStart =>
    exact ⟨_, _, [], hrg4, Nat.le_refl _, ⟨by simp, by simp, HN4.out.mono (Nat.zero_le _), HR4.out, by rw [HB.out]; omega⟩, (seen_start E).symm, HU4.out⟩
  case round =>
    obtain ⟨left, cnt, E', hrg, hcs, HC, HP, HU⟩ := hrel
    go_wp2_with (at_next; refine wpList_next_ranges _ rfl _ rfl 9 keyed9 RB Value.string mkV key_inv RB_inv mb (B + 2) n _ _ _ rfl hrg ?_ ?_)
    · intro hc0 hl0
      subst hc0
      have hpl := HP.out
      rw [seen_end hl0] at hpl
      have hc := HC.out
      rw [HT.out] at hc
      have hend := hc.end hpl HE.out.may HE.out.big (n := n) (by omega)
      go_wp2_with fail
      go_ret
      exact ⟨B + 1, _, rfl, hend, by
        rintro k (rfl | rfl | hk)
        · exact HC.out.low.2
        · exact HC.out.low.1
        · obtain ⟨x, hx, rfl⟩ := List.mem_map.1 hk
          exact (HC.out.file x hx).1, HU.out⟩
    · intro x c kl y1 y2 w1 cnt1 hkx hlk hRy hat hrg1 hlt hg1 hs1 hen
      obtain ⟨rfl, hxm⟩ := key_is hkx
      obtain ⟨f, b, hg, hy⟩ := at_some hat
      have hy : y1 = .held b := hy
      subst hy
      have hc := RB_held hRy
      have hu1 : Upd (fun i => i = B + 2) _ w1 := (Upd.refl _ _).of_grown hg1 (fun k hk _ => by simp at hk; exact hk.symm)
      have hmem := (get_some Bn hg).1
      have hbl := HE.out.below _ (HE.out.file _ hmem).1
      have hfl : fileAt w1 (f, b) := (((HE.out.file _ hmem).2.upd HU.out (fun f => f))).upd hu1 (fun e => by have := HB.out; simp only at e hbl; omega)
      obtain ⟨f0, f1, _⟩ := file_cells hfl
      simp only at f0 f1
      have hfx : f.name = x := (get_some Bn hg).2
      subst hfx
      have hmbB : mb < B := by rw [HB.out]; exact HE.out.below mb HSB.out
      have hra : rootAt w1 (B + 1) room t B := HC.out.root.upd hu1 (fun e => by omega)
      have hu1a : Upd (fun i => i = B + 2) w1 (w1.alloc (.cells #[.string f.bytes, .int .i64 (f.synced : Nat)] 124)) := (Upd.refl _ w1).alloc _
      obtain ⟨_, _, d2, _⟩ := root_cells (hra.upd hu1a (fun e => by omega))
      have hfresh : (w1.alloc (.cells #[.string f.bytes, .int .i64 (f.synced : Nat)] 124)).heap[wr.heap.size]? = some (.cells #[.string f.bytes, .int .i64 (f.synced : Nat)] 124) := by rw [← hs1]; exact heap_alloc _
      have hmapc : (w1.alloc (.cells #[.string f.bytes, .int .i64 (f.synced : Nat)] 124)).ownsMap Try.prog 9 RB B (Maps.size (DataW.map (ents E)) - cnt) (.map (ents E')) := map_upd (map_upd HC.out.map hu1 (fun e => by omega)) hu1a (fun e => by omega)
      have hrg1a := hrg1.alloc (.cells #[.string f.bytes, .int .i64 (f.synced : Nat)] 124)
      have huw : Upd (fun _ => False) w (w1.alloc (.cells #[.string f.bytes, .int .i64 (f.synced : Nat)] 124)) := (HU.out.trans hu1 (fun i hi e => by have := HB.out; omega)).alloc _
      have hfiles : ∀ z ∈ E', z.2 < wr.heap.size := fun z hz => lt_of_heap (HC.out.file z hz).2
      have HFR := Lib.hid hfresh
      have HRA := Lib.hid hra
      have HUA := Lib.hid hu1a
      have HUW := Lib.hid huw
      have HU1 := Lib.hid hu1
      have HKX := Lib.hid hkx
      have HRG := Lib.hid hrg1a
      have HMP := Lib.hid hmapc
      have hml : Maps.size (DataW.map (ents E)) - cnt < maxLen := by unfold maxLen; omega
      clear hfresh hra hu1a huw hu1 hkx hrg1 hrg1a hmapc hfl
      go_wp2_with (at_mapUpdate; refine wpList_mapUpdate_own _ rfl _ _ _ 83 rfl 9 122 keyed9 Try.underlying83 RB B (Maps.size (DataW.map (ents E)) - cnt) (.map (ents E')) rfl HMP.out hml _ _ (key f.name) rfl rfl HKX.out (.held wr.heap.size) [] rfl ?_)
      intro w2 hown2 hgrow2
      have hu2 : Upd (fun i => i = B) _ w2 := (Upd.refl _ _).of_grown hgrow2 (fun k hk _ => by simp at hk; exact hk.symm)
      have hrg2 := HRG.out.kept hgrow2 (fun e => by have := Option.some.inj e; omega) (fun e => by have := Option.some.inj e; omega)
      have hBl : B ≤ wr.heap.size := by have := HU.out.size; have := HB.out; omega
      have hlow := HC.out.low
      have hB2 : B + 2 < wr.heap.size := hrg.lt
      have hnx : Copying w w2 (B + 1) B room t (put Bn (f, wr.heap.size) E') (Maps.size (DataW.map (ents E)) - cnt1) := by
        refine ⟨?_, fun z hz => ?_, ?_, (HRA.out.upd HUA.out (fun e => by omega)).upd hu2 (fun e => by omega), hlow⟩
        · unfold put
          rw [((ins_perm Bn _ _).map _).nodup_iff, List.map_cons, List.nodup_cons]
          refine ⟨fun hm => ?_, List.Nodup.sublist (List.Sublist.map _ List.filter_sublist) HC.out.nodup⟩
          obtain ⟨z, hz, e⟩ := List.mem_map.1 hm
          have := hfiles z ((mem_drop Bn).1 hz).1
          have e : z.2 = wr.heap.size := e
          omega
        · rcases (mem_put Bn).1 hz with rfl | ⟨hz, _⟩
          · exact ⟨by have := HB.out; simp only; omega, hu2.keep HFR.out (fun e => by simp only at e; omega)⟩
          · obtain ⟨h1, h2⟩ := HC.out.file z hz
            have := hfiles z hz
            have hzB : z.2 ≠ B := by
              intro e
              obtain ⟨es, clock, hb', _⟩ := HC.out.map
              unfold fileAt at h2
              rw [e, hb'] at h2
              cases h2
            have hzr : z.2 ≠ B + 2 := by
              intro e
              obtain ⟨_, _, _, _, _, _, _, _, _, hit, _⟩ := hrg
              unfold fileAt at h2
              rw [e, hit] at h2
              cases h2
            exact ⟨h1, ((h2.upd HU1.out hzr).upd HUA.out hzr).upd hu2 hzB⟩
        · rw [ents_put]
          exact hown2.mono (by omega)
      have hpl2 : plain (put Bn (f, wr.heap.size) E') = seen (fun z => left z && !z.sameKey (key f.name)) (plain E) := by
        rw [← seen_step HE.out.may.srt (List.mem_map.2 ⟨_, hmem, rfl⟩), ← HP.out]
        exact map_put Bn En (fun x => x.1) (fun _ => rfl) (f, wr.heap.size) E'
      go_wp2_with fail
      go_roundw
      case rel => exact ⟨_, cnt1, _, hrg2, by omega, hnx, hpl2, HUW.out.of_grown hgrow2 (fun k hk hk2 => by simp at hk; have := HB.out; omega)⟩
      case measure => rw [hrg2.left_eq, hrg.left_eq]; exact hlt
end Go.Proofs.Ytgkegfgdpekehaa
