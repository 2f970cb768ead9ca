/- The walks of HasPrefix and of List: the names of a disk, in order. -/
import Derived.Test.YtgkegfgdpekehaaGreatDf
import Derived.Test.YtgkegfgdpekehaaGreatIt
namespace Go.Proofs
open Go.RowKit Go.Maps Go.Sort Go.Shelf
/-- slices.Sort's two contracts here, at the fence that asks nothing. -/
theorem Tryz.sorts84 (m : Nat) : AnyZ.SortsIn Tryz.prog Tryz.sorted84_ren Fence.wide m :=
  ⟨fun blk off cap ss W hH hblk hsz => callsIn_wide.2 (AnyM.slices_Sort_string Tryz.sort108 blk off cap ss W hH hblk hsz),
   fun p cap W => callsIn_wide.2 (AnyM.slices_Sort_string_none Tryz.sort108 p cap W)⟩
/-- maps.Keys here: a function value over one new block, which holds the map. -/
theorem Tryz.keys_any (mb : Nat) (W : World) : Calls Tryz.prog 40 #[.map (some mb)] W fun e w' => e = .returned (.func (.func 66) #[] #[.pointer (some ⟨W.heap.size, 0, none⟩)]) ∧ w' = W.alloc (.cells #[.map (some mb)] 58) :=
  (callsIn_wide (n := 5)).1 (AnyZ.keys_in Tryz.keys85 Fence.wide 5 trivial rfl (some mb) W)
set_option maxHeartbeats 1000000 in
/-- slices.Sorted at what maps.Keys handed back: a new slice that holds the map's keys, sorted. -/
theorem Tryz.sorted_any {H : Type} (b nn : Nat) (D0 : DataW H) (R : Value → Option (DataW H × List MemPlace)) (w : World) (hown : w.ownsMap Tryz.prog 9 R b nn D0) (hmax : Maps.size D0 ≤ maxLen) (hbytes : Maps.size D0 * 16 ≤ 140737488355328) :
    Calls Tryz.prog 39 #[.func (.func 66) #[] #[.pointer (some ⟨w.heap.size, 0, none⟩)]] (w.alloc (.cells #[.map (some b)] 58)) fun e w' => ∃ (v : Value) (ss : List (List UInt8)), e = .returned v ∧ ss.Perm (strKeys D0) ∧
      w'.ownsRow (w.alloc (.cells #[.map (some b)] 58)).heap.size 9 1 v ss.length ((ss.mergeSort (fun x y => decide (x ≤ y))).map encStr) ∧ (v = .slice none 0 0 ↔ ss = []) ∧ Below (w.alloc (.cells #[.map (some b)] 58)).heap.size (w.alloc (.cells #[.map (some b)] 58)) w' := by
  refine (callsIn_wide (n := 5)).1 ?_
  have hbl := hown.lt
  have hseq : SeqGives Fence.wide 2 Tryz.prog 66 #[.pointer (some ⟨w.heap.size, 0, none⟩)] encStr (fun ss => ss.Perm (strKeys D0)) (Maps.size D0) (w.alloc (.cells #[.map (some b)] 58)) :=
    AnyZ.keys_gives (ρ := Tryz.keys85_ren) { Tryz.keys85 with } Fence.wide _ trivial rfl (by omega) w.heap.size b nn D0 _ (by simp) (by simp) (by
      obtain ⟨es, clock, hb, Ft, hs, hD⟩ := hown
      exact ⟨es, clock, (Below.heap_alloc _ _ b hbl).trans hb, Ft, hs, hD⟩)
  exact AnyZ.sorted_in Tryz.sorted84 Fence.wide 5 trivial trivial trivial trivial rfl (by omega) (Tryz.sorts84 _) (enters_of Tryz.func65 (by kernel_rfl) rfl) 66 #[.pointer (some ⟨w.heap.size, 0, none⟩)] trivial (enters_of Tryz.func66 (by kernel_rfl) rfl) _ _ hmax hbytes _ hseq
end Go.Proofs
namespace Go.Proofs.YtgkegfgdpekehaaGreat
open Go.RowKit Go.Acre Go.Acre.Dk Go.Maps Go.Sort Go.Shelf

theorem bytesBefore_lt : ∀ (a b : List UInt8), bytesBefore a b = true → a < b
  | [], [], h => by cases h
  | [], _ :: _, _ => by simp
  | _ :: _, [], h => by cases h
  | x :: r, y :: s, h => by
    simp only [bytesBefore, Bool.or_eq_true, Bool.and_eq_true, decide_eq_true_eq, beq_iff_eq] at h
    rw [List.cons_lt_cons_iff]
    rcases h with h | ⟨rfl, h⟩
    · exact .inl h
    · exact .inr ⟨rfl, bytesBefore_lt r s h⟩
def raw (D : Files) : List (List UInt8) := D.map fun f => f.name.data.toList
theorem raw_sorted {D : Files} (h : Srt En D) : (raw D).mergeSort (fun x y => decide (x ≤ y)) = raw D := by
  refine List.mergeSort_of_pairwise ?_
  unfold raw
  rw [List.pairwise_map]
  refine List.Pairwise.imp ?_ h
  intro a b hab
  simp only [decide_eq_true_eq]
  exact List.le_of_lt (bytesBefore_lt _ _ hab)
theorem keys_raw (E : List EB) : strKeys (DataW.map (ents E)) = raw (plain E) := by
  simp [strKeys, ents, raw, plain, Dk.key]
  intro a b _
  rfl
theorem sorted_raw {E : List EB} (h : Srt En (plain E)) {ss : List (List UInt8)} (hp : ss.Perm (strKeys (DataW.map (ents E)))) : ss.mergeSort (fun x y => decide (x ≤ y)) = raw (plain E) := by
  have := mergeSort_of_perm hp
  rw [keys_raw] at this
  exact this.trans (raw_sorted h)

/-! ### the prefix -/
def hasPre (s p : ByteArray) : Bool := p.data.toList.isPrefixOf s.data.toList
theorem pre_long {s p : ByteArray} (h : p.size ≤ s.size) : ((s.extract 0 p.size).toList == p.toList) = hasPre s p := by
  rw [str_eql]
  unfold hasPre
  rw [Bool.eq_iff_iff]
  simp only [decide_eq_true_eq, List.isPrefixOf_iff_prefix]
  rw [List.prefix_iff_eq_take]
  constructor
  · intro e
    have := congrArg (fun b : ByteArray => b.data.toList) e
    simp only [ByteArray.data_extract, Array.toList_extract, List.extract_eq_take_drop, List.drop_zero, Nat.sub_zero] at this
    exact this.symm
  · intro e
    apply ByteArray.ext
    apply Array.ext'
    simp only [ByteArray.data_extract, Array.toList_extract, List.extract_eq_take_drop, List.drop_zero, Nat.sub_zero]
    exact e.symm
theorem pre_short {s p : ByteArray} (h : ¬ p.size ≤ s.size) : hasPre s p = false := by
  unfold hasPre
  rw [Bool.eq_false_iff]
  intro e
  rw [List.isPrefixOf_iff_prefix] at e
  have := e.length_le
  rw [Array.length_toList, Array.length_toList] at this
  exact h this
theorem prefix_any (s p : ByteArray) (w : World) : Calls Tryz.prog 67 #[.string s, .string p] w (BoolPost (hasPre s p) w) := by
  by_cases h : p.size ≤ s.size
  · have hd : decide ((p.size : Int) ≤ (s.size : Int)) = true := by simp; omega
    have hp := pre_long h
    have h1 : (p.size : Int) ≤ (s.size : Int) := by omega
    go_enter Tryz.func67, Tryz.ntmps67
    go_wp2_with fail
    go_ret
    exact ⟨rfl, rfl⟩
  · have hd : decide ((p.size : Int) ≤ (s.size : Int)) = false := by simp; omega
    have hp := Lib.hid (pre_short h)
    go_enter Tryz.func67, Tryz.ntmps67
    go_wp2_with fail
    go_ret
    exact ⟨by rw [hp.out]; rfl, rfl⟩
theorem strprefix_any (s p : ByteArray) (w : World) : Calls Tryz.prog 42 #[.string s, .string p] w (BoolPost (hasPre s p) w) := by
  go_enter Tryz.func42, Tryz.ntmps42
  go_wp2_with fail
  refine (prefix_any s p _).mono ?_
  rintro e w' ⟨rfl, rfl⟩
  go_wp2_with fail
  go_ret
  exact ⟨rfl, rfl⟩
theorem gives86 (p : ByteArray) (x : List UInt8) (B : Nat) (W : World) (hc : W.cell? ⟨B, 0, none⟩ = some (.string p)) :
    FnGives Tryz.prog 41 #[.pointer (some ⟨B, 0, none⟩)] #[encStr x] (.bool (!hasPre ⟨x.toArray⟩ p)) W := by
  show Calls Tryz.prog 41 #[.string ⟨x.toArray⟩, .pointer (some ⟨B, 0, none⟩)] W _
  generalize (⟨x.toArray⟩ : ByteArray) = s
  go_enter Tryz.func41, Tryz.ntmps41
  go_wp2_with fail
  refine (strprefix_any s p _).mono ?_
  rintro e w' ⟨rfl, rfl⟩
  go_wp2_with fail
  go_ret
  exact ⟨rfl, 0, rfl⟩
theorem pred86 (p : ByteArray) (B : Nat) (w : World) (hcell : w.cell? ⟨B, 0, none⟩ = some (.string p)) :
    PredAt Tryz.prog 41 #[.pointer (some ⟨B, 0, none⟩)] encStr (fun x => !hasPre ⟨x.toArray⟩ p) w :=
  fun W x hb => gives86 p x B W ((hb.cell (p := ⟨B, 0, none⟩) (World.block_lt_of_cell? w _ hcell)).trans hcell)
theorem over86 (p : ByteArray) (B blk off size : Nat) (w : World) (hne : B ≠ blk) (hcell : w.cell? ⟨B, 0, none⟩ = some (.string p)) :
    PredOver Tryz.prog 41 #[.pointer (some ⟨B, 0, none⟩)] encStr (fun x => !hasPre ⟨x.toArray⟩ p) blk off size w :=
  fun n os dk x _ => gives86 p x B _ (by
    unfold sortWorld
    rw [cell?_grow _ _ _ (by show B < (putRow _ _ _ _ _).heap.size; rw [size_putRow]; exact World.block_lt_of_cell? w _ hcell), cell?_putRow_other _ _ blk off _ _ (Or.inl hne)]
    exact hcell)
theorem zero9 (w : World) : (zeroValue (Tryz.del83_ren.t 23)).run Tryz.prog w = .ok (encStr []) w := by kernel_rfl

/-- the row cut to what begins so -/
theorem del_some {w : World} {base g cap : Nat} {l : List (List UInt8)} (p : ByteArray) (B : Nat) (hown : w.ownsRow base 9 1 (.slice (some ⟨g, 0, none⟩) l.length cap) l.length (l.map encStr)) (hne : B ≠ g) (hcell : w.cell? ⟨B, 0, none⟩ = some (.string p)) :
    Calls Tryz.prog 38 #[.slice (some ⟨g, 0, none⟩) l.length cap, .func (.func 41) #[] #[.pointer (some ⟨B, 0, none⟩)]] w fun e w' => ∃ v, e = .returned v ∧ v.ownBlock = some g ∧
      w'.ownsRow base 9 1 v (l.filter fun x => hasPre ⟨x.toArray⟩ p).length ((l.filter fun x => hasPre ⟨x.toArray⟩ p).map encStr) ∧ Upd (fun i => i = g) w w' := by
  obtain ⟨hlen, h | ⟨g', cap', cur, hv, hb, hg, h1, h2, h3, h4⟩⟩ := hown
  · simp at h
  simp only [Value.slice.injEq, Option.some.injEq, Addr.mk.injEq, and_true] at hv
  obtain ⟨rfl, _, rfl⟩ := hv
  simp only [Nat.mul_one] at h3 h4
  have hcur : ∀ j, j < l.length → cur[j]? = some (encStr l[j]!) := fun j hj => by
    have e := congrArg (fun x => x[j]?) h4
    simp only [List.getElem?_take, hj, if_true, Array.getElem?_toList, List.getElem?_map] at e
    rw [e, List.getElem?_eq_getElem hj]
    simp [hj]
  have hH : Holds encStr w g 0 l.toArray := fun j hj => by
    have hj' : j < l.length := by simpa using hj
    refine ⟨?_, frozen_of_heap hg _ _⟩
    rw [cell_of_heap hg, Nat.zero_add, hcur j hj']
    simp
  have hmax : l.length ≤ 9223372036854775807 := by unfold maxLen at h2; omega
  have hc := AnyE.slices_DeleteFunc Tryz.del83 encStr (fun _ => rfl) (fun x => !hasPre ⟨x.toArray⟩ p) 41 #[.pointer (some ⟨B, 0, none⟩)] (enters_of Tryz.func41 (by kernel_rfl) rfl) [] zero9 g 0 cap l.toArray w
    (pred86 p B w hcell) (over86 p B g 0 _ w hne hcell) hH (by simpa using hmax) (by simpa using h1)
  have hfe : (fun x : List UInt8 => !(!hasPre ⟨x.toArray⟩ p)) = fun x => hasPre ⟨x.toArray⟩ p := by funext x; simp
  simp only [hfe] at hc
  change Calls Tryz.prog 38 _ _ _ at hc
  simp only [List.size_toArray] at hc
  refine hc.mono ?_
  rintro e w' ⟨rfl, q, rfl⟩
  have hle : (l.filter fun x => hasPre ⟨x.toArray⟩ p).length ≤ l.length := List.length_filter_le _ _
  generalize (l.filter fun x => hasPre ⟨x.toArray⟩ p) = r at *
  refine ⟨_, rfl, rfl, ⟨by simp, .inr ⟨g, cap, putCells encStr 0 (r ++ List.replicate (l.length - r.length) []).toArray cur, rfl, hb, ?_, by omega, h2, ?_, ?_⟩⟩, ⟨rfl, rfl, rfl, ?_, ?_⟩⟩
  · show ((Sort.ahead w q).heap.modify g (onCells _))[g]? = _
    rw [Array.getElem?_modify, if_pos rfl]
    show (w.heap[g]?).map _ = _
    rw [hg]
    rfl
  · simp [putCells]; omega
  · apply List.ext_getElem?
    intro j
    simp only [Nat.mul_one, List.getElem?_take, List.getElem?_map]
    by_cases hj : j < r.length
    · have hjc : j < cur.size := by omega
      rw [if_pos hj, Array.getElem?_toList]
      simp only [putCells, Array.getElem?_mapIdx, Array.getElem?_eq_getElem hjc, Option.map_some]
      rw [if_pos (by simp; omega)]
      simp [hj]
      rw [List.getElem?_append_left hj, List.getElem?_eq_getElem hj]
      rfl
    · rw [if_neg hj, List.getElem?_eq_none (by omega)]
      rfl
  · show w.heap.size ≤ ((Sort.ahead w q).heap.modify g _).size
    simp
  · intro k _ hne
    show ((Sort.ahead w q).heap.modify g _)[k]? = w.heap[k]?
    rw [Array.getElem?_modify, if_neg (fun e => hne e.symm)]
    rfl
theorem idx_nil (fv : Value) (w : World) : Calls Tryz.prog 63 #[.slice none 0 0, fv] w fun e w' => e = .returned (.int .i64 (-1)) ∧ w = w' := by
  go_enter Tryz.func63, Tryz.ntmps63
  go_wp2_with fail
  go_loop [8] (fun i => i = .int .i64 0) (fun _ => 0)
  case atStart => rfl
  case round =>
    obtain rfl := hrel
    go_wp2_with fail
    go_ret
    exact ⟨rfl, rfl⟩
theorem del_nil (fv : Value) (w : World) : Calls Tryz.prog 38 #[.slice none 0 0, fv] w fun e w' => e = .returned (.slice none 0 0) ∧ w = w' := by
  go_enter Tryz.func38, Tryz.ntmps38
  go_wp2_with fail
  refine (idx_nil fv _).mono ?_
  rintro e w' ⟨rfl, rfl⟩
  go_wp2_with fail
  go_ret
  exact ⟨rfl, rfl⟩

theorem own_base {w : World} {b b' : Nat} {e : TypeId} {size n : Nat} {v : Value} {xs : List Value} (h : w.ownsRow b e size v n xs) (hb : b' ≤ b) : w.ownsRow b' e size v n xs := by
  refine ⟨h.1, ?_⟩
  rcases h.2 with hn | ⟨g, cap, cur, rfl, h1, rest⟩
  · exact .inl hn
  · exact .inr ⟨g, cap, cur, rfl, Nat.le_trans hb h1, rest⟩
def ListPost (ss : List ByteArray) (w : World) (e : Ending) (w' : World) : Prop := ∃ v, e = .returned v ∧ OwnStrs w' w.heap.size v ss ∧ Upd (fun _ => False) w w'
theorem list_raw (D : Files) (p : ByteArray) : ((raw D).filter fun x => hasPre ⟨x.toArray⟩ p).map encStr = (listD D p).map Value.string := by
  unfold raw listD
  rw [List.filter_map, List.filter_map, List.map_map, List.map_map]
  have e : ((fun x : List UInt8 => hasPre ⟨x.toArray⟩ p) ∘ fun f : Ent => f.name.data.toList) = ((fun s : ByteArray => p.data.toList.isPrefixOf s.data.toList) ∘ fun f : Ent => f.name) := by
    funext f
    simp [Function.comp, hasPre]
  rw [e]
  apply List.map_congr_left
  intro f _
  simp [Function.comp, encStr]
theorem list_len (D : Files) (p : ByteArray) : ((raw D).filter fun x => hasPre ⟨x.toArray⟩ p).length = (listD D p).length := by
  have := congrArg List.length (list_raw D p)
  simpa using this
set_option maxHeartbeats 1000000 in
set_option maxRecDepth 100000 in
theorem list_any {w : World} {S : Nat → Prop} {db room n : Nat} {D : Files} (h : Has w S db room n D) (p : ByteArray) (hn : n ≤ 1000000) :
    Calls Tryz.prog 14 #[.pointer (some ⟨db, 0, none⟩), .string p] w (ListPost (listD D p) w) := by
  obtain ⟨E, hE, rfl⟩ := h
  obtain ⟨mb, _, hr, hmap⟩ := hE.root
  obtain ⟨_, _, c2, _⟩ := root_cells hr
  have hsrt := hE.may.srt
  have hsz : Maps.size (DataW.map (ents E)) ≤ n := hmap.size_le
  have hm1 : (w.alloc (.cells #[.string p] 9)).ownsMap Tryz.prog 9 RB mb n (.map (ents E)) := hmap.alloc _
  have c2' : (w.alloc (.cells #[.string p] 9)).cell? ⟨db, 2, none⟩ = some (.map (some mb)) := cell_upd ((Upd.refl (fun _ => False) w).alloc _) c2 (fun f => f)
  have hpc : (w.alloc (.cells #[.string p] 9)).cell? ⟨w.heap.size, 0, none⟩ = some (.string p) := by rw [cell_of_heap (heap_alloc _)]; rfl
  have hu1 : Upd (fun _ => False) w (w.alloc (.cells #[.string p] 9)) := (Upd.refl _ w).alloc _
  have hs1 : (w.alloc (.cells #[.string p] 9)).heap.size = w.heap.size + 1 := by simp
  have HS := Lib.hid hsrt
  have HM := Lib.hid hm1
  have HU := Lib.hid hu1
  clear hE hr hmap hsrt hm1 hu1
  go_enter Tryz.func14, Tryz.ntmps14
  go_wp2_with fail
  generalize hB : w.heap.size = B at *
  have HB := Lib.hid hB
  clear hB
  generalize w.alloc (.cells #[.string p] 9) = w1 at *
  refine (none_some db mb _ c2').mono ?_
  rintro e w' ⟨rfl, rfl⟩
  go_wp2_with fail
  refine (Tryz.keys_any mb _).mono ?_
  rintro e w2 ⟨rfl, rfl⟩
  go_wp2_with fail
  rw [← hs1]
  refine (Tryz.sorted_any mb n (.map (ents E)) RB w1 HM.out (by unfold maxLen; omega) (by omega)).mono ?_
  rintro e w2 ⟨v, ss, rfl, hperm, hown, hnil, hbel⟩
  have hlen : ss.length = (raw (plain E)).length := by rw [hperm.length_eq, keys_raw]
  have hu2 : Upd (fun _ => False) w1 w2 := ((Upd.refl _ w1).alloc _).trans (Upd.of_below hbel) (fun _ _ h => h)
  rw [sorted_raw HS.out hperm, hlen] at hown
  have HRAW : Hid ((listD (plain E) p).length = ((raw (plain E)).filter fun x => hasPre ⟨x.toArray⟩ p).length ∧ (listD (plain E) p).map Value.string = ((raw (plain E)).filter fun x => hasPre ⟨x.toArray⟩ p).map encStr) := ⟨(list_len _ _).symm, (list_raw _ _).symm⟩
  have hpc2 := cell_upd hu2 hpc (fun f => f)
  have hbase : (w1.alloc (.cells #[.map (some mb)] 58)).heap.size = B + 2 := by simp; omega
  rw [hbase] at hown
  generalize hrl : raw (plain E) = l at *
  clear hrl hperm hbel hbase
  rcases hown.2 with ⟨rfl, h0⟩ | ⟨g, cap, cur, hv, hb, _⟩
  · have hl0 : l = [] := List.eq_nil_of_length_eq_zero h0
    go_wp2_with fail
    refine (del_nil _ _).mono ?_
    rintro e w3 ⟨rfl, rfl⟩
    go_wp2_with fail
    go_ret
    refine ⟨_, rfl, ?_, HU.out.trans hu2 (fun _ _ h => h)⟩
    unfold OwnStrs
    rw [HRAW.out.1, HRAW.out.2, hl0]
    exact World.ownsRow_nil _ _ _ _
  · subst hv
    have hds := del_some p B hown (by omega) hpc2
    clear hown
    go_wp2_with fail
    refine hds.mono ?_
    rintro e w3 ⟨v3, rfl, hob, hown3, hu3⟩
    go_wp2_with fail
    go_ret
    refine ⟨_, rfl, ?_, (HU.out.trans hu2 (fun _ _ h => h)).trans hu3 (fun i hi e => by have := HB.out; omega)⟩
    unfold OwnStrs
    rw [HRAW.out.1, HRAW.out.2, HB.out]
    exact own_base hown3 (by omega)
end Go.Proofs.YtgkegfgdpekehaaGreat
