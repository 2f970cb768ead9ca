/- Plain facts for DiskPlays: how long and how heavy the files get; a step's kind modulo seven; what a step's strings weigh. -/
import Derived.Test.YtgkegfgdpekehaaGreatDm
import Derived.SizedLaws
import Derived.Test.YtgkegfgdpekehaaGreatDy
namespace Go.Proofs.YtgkegfgdpekehaaGreat
open Go.RowKit Go.Acre Go.Acre.Dk Go.Maps

theorem seven (k : Int) : ∃ (m : Int) (q : Nat), k.tmod 7 = m ∧ -7 < m ∧ m < 7 ∧ q < 7 ∧ (m + 7).tmod 7 = (q : Int) := by
  have h1 : -7 < k.tmod 7 := by
    have := Int.lt_tmod_of_pos k (show (0 : Int) < 7 by omega)
    omega
  have h2 : k.tmod 7 < 7 := Int.tmod_lt_of_pos k (by omega)
  have h3 : 0 ≤ ((k.tmod 7) + 7).tmod 7 := Int.tmod_nonneg 7 (by omega)
  have h4 : ((k.tmod 7) + 7).tmod 7 < 7 := Int.tmod_lt_of_pos _ (by omega)
  exact ⟨_, (((k.tmod 7) + 7).tmod 7).toNat, rfl, h1, h2, by omega, by omega⟩
theorem put_len (x : Ent) (D : Files) : (put En x D).length ≤ D.length + 1 := by
  unfold put
  rw [(ins_perm En x _).length_eq, List.length_cons]
  have : (Dk.drop En (En x) D).length ≤ D.length := List.length_filter_le _ _
  omega
theorem drop_len (k : ByteArray) (D : Files) : (Dk.drop En k D).length ≤ D.length := List.length_filter_le _ _
theorem put_len_some {x : Ent} {D : Files} {f : Ent} (h : Srt En D) (hg : get En D x.name = some f) : (put En x D).length = D.length := by
  obtain ⟨hm, he⟩ := get_some En hg
  obtain ⟨l1, l2, rfl⟩ := List.append_of_mem hm
  rw [put_mid En h he.symm]
  simp
/-- at most one file more, at most so many bytes more -/
def Grew (D D' : Files) (m : Nat) : Prop := D'.length ≤ D.length + 1 ∧ total D' ≤ total D + m
theorem grew_same (D : Files) (m : Nat) : Grew D D m := ⟨by omega, by omega⟩
theorem grew_append {room : Nat} {D : Files} (h : May room D) (a b : ByteArray) : Grew D (appendD room D a b).1 b.size := by
  unfold appendD
  split
  · split
    · cases hg : get En D a with
      | none => exact ⟨put_len _ _, by rw [total_put_none (x := ⟨a, b, 0⟩) hg]; exact Nat.le_refl _⟩
      | some f =>
        have ht := total_put_some h.srt (x := ⟨a, f.bytes ++ b, f.synced⟩) hg
        simp only [ByteArray.size_append] at ht
        exact ⟨put_len _ _, by simp only; omega⟩
    · exact grew_same _ _
  · exact grew_same _ _
theorem grew_sync {room : Nat} {D : Files} (h : May room D) (a : ByteArray) (m : Nat) : Grew D (syncD D a).1 m := by
  unfold syncD
  cases hg : get En D a with
  | none => exact grew_same _ _
  | some f =>
    have hn := (get_some En hg).2
    have ht := total_put_some h.srt (x := ⟨a, f.bytes, f.bytes.size⟩) (f := f) hg
    simp only at ht
    exact ⟨put_len _ _, by simp only; omega⟩
theorem grew_rename {room : Nat} {D : Files} (h : May room D) (a b : ByteArray) (m : Nat) : Grew D (renameD D a b).1 m := by
  unfold renameD
  cases hg : get En D a with
  | none => exact grew_same _ _
  | some f =>
    simp only
    split
    · have ht := total_drop h.srt hg
      have h3 := total_put_le (srt_drop En h.srt a) ⟨b, f.bytes, f.synced⟩
      simp only at h3
      exact ⟨Nat.le_trans (put_len _ _) (Nat.add_le_add_right (drop_len a D) 1), by simp only; omega⟩
    · exact grew_same _ _
theorem grew_remove {room : Nat} {D : Files} (h : May room D) (a : ByteArray) (m : Nat) : Grew D (removeD D a).1 m := by
  unfold removeD
  cases hg : get En D a with
  | none => exact grew_same _ _
  | some f =>
    have ht := total_drop h.srt hg
    exact ⟨by have := drop_len a D; simp only; omega, by simp only; omega⟩
theorem grew_crash {room : Nat} {D : Files} (h : May room D) (zs : List Int) (m : Nat) : Grew D (crashD D zs) m := by
  refine ⟨by unfold crashD; simp, ?_⟩
  have := total_mapIdx_le (D := D) (g := fun i f => cutE zs[i]? f) (fun i f hf => (cutE_synced _ (h.syn f hf)).2.1)
  unfold crashD
  omega
theorem May.sizes {room : Nat} {D : Files} (h : May room D) (ht : total D ≤ 4611686018427387904) : ∀ f ∈ D, f.synced ≤ f.bytes.size ∧ f.bytes.size ≤ 4611686018427387904 :=
  fun f hf => ⟨h.syn f hf, Nat.le_trans (size_le_total hf) ht⟩
/-- no element's second string, and no element's list, is longer than what can be handed in -/
def DosB (w : World) (a : Option Addr) (len : Nat) : Prop := ∀ i, i < len → ∀ (g o : Nat), a = some ⟨g, o, none⟩ →
  (∀ dt : ByteArray, w.cell? ⟨g, o + i * 4 + 2, none⟩ = some (.string dt) → dt.size ≤ 140737488351232) ∧ (∀ (ka : Option Addr) (kl kc : Nat), w.cell? ⟨g, o + i * 4 + 3, none⟩ = some (.slice ka kl kc) → kl * 8 ≤ 140737488351232)
section
open Go.ChangeShapes Go.WideShapes Go.Deep
variable {H : Type} {enc : TypeId × Value → H} {w : World} {base : Nat} {held : Bool}
theorem weights_all_mem {P : Program} {e : TypeId} {d : DataW H} : ∀ {l : List (DataW H)}, d ∈ l → ∀ n ∈ d.weights P e, n ∈ DataW.weightsAll P e l
  | x :: r, hd, n, hn => by
    simp only [DataW.weightsAll, List.mem_append]
    rcases List.mem_cons.1 hd with rfl | h
    · exact .inl hn
    · exact .inr (weights_all_mem h n hn)
theorem open_slice_full {P : Program} {spare : Nat → Bool} {t e : TypeId} {fs : Array Field} {fuel : Nat} {cs : List Value} {x : DataW H × List MemPlace} (ht : P.underlying t = some (.slice e)) (he : P.underlying e = some (.struct fs))
    (hone : oneCellFields P fs = true) (hC : P.cellsOf e = fs.size) (h : DataW.trod enc P w base spare held fuel t cs = some x) :
    (cs = [.slice none 0 0] ∧ x = (.nil, [])) ∨
    ∃ (a : Addr) (len cap m : Nat) (D : Nat → DataW H) (Pl : Nat → List MemPlace), cs = [.slice (some a) len cap] ∧ base ≤ a.block ∧ len ≤ cap ∧ cap ≤ maxLen ∧ m = (if spare a.block then cap else len) ∧
      x = (.slice ((List.range len).map D) ((List.range (m - len)).map fun j => D (len + j)), MemPlace.row a (m * fs.size) ++ (List.range m).flatMap Pl) ∧
      ∀ i, i < m → ∃ (ys : List (DataW H × List MemPlace)) (n : Nat), D i = .agg (ys.map (·.1)) ∧ Pl i = ys.flatMap (·.2) ∧ ys.length = fs.size ∧
        ∀ (j : Nat) (f : Field), fs[j]? = some f → ∃ (v : Value) (y : DataW H × List MemPlace), w.cell? (a.add (i * fs.size + j)) = some v ∧ ys[j]? = some y ∧ DataW.trod enc P w base spare held n f.type [v] = some y := by
  rcases open_slice ht h with h0 | ⟨a, len, cap, m, n, D, Pl, hcs, hb, hl, hm, hmm, hx, hi⟩
  · exact .inl h0
  · refine .inr ⟨a, len, cap, m, D, Pl, hcs, hb, hl, hm, hmm, by rw [hC] at hx; exact hx, fun i him => ?_⟩
    obtain ⟨cs', hc, ht'⟩ := hi i him
    rw [hC] at hc
    obtain ⟨ys, n', hn', hy, hlen, hyl, hf⟩ := DataW.trod_struct he ht'
    obtain ⟨_, hcl, hat⟩ := World.cells?_some hc
    simp only [Prod.mk.injEq] at hy
    refine ⟨ys, n', hy.1, hy.2, hyl, fun j f hj => ?_⟩
    obtain ⟨ho, hk⟩ := hone_of hone j f hj
    have hjl : j < fs.size := (Array.getElem?_eq_some_iff.1 hj).1
    have hcell := hat j hjl
    have hv : cs'[j]? = some (cs'[j]'(by omega)) := List.getElem?_eq_getElem (by omega)
    have h1 := hf j f hj
    rw [ho, hk] at h1
    have hone' : (cs'.drop j).take 1 = [cs'[j]'(by omega)] := by
      rw [List.drop_eq_getElem_cons (by omega)]
      rfl
    rw [hone'] at h1
    have hys : ys[j]? = some (ys[j]'(by omega)) := List.getElem?_eq_getElem (by omega)
    refine ⟨_, _, ?_, hys, h1.trans hys⟩
    rw [← Go.Deep.add_add, hcell, hv]
end
end Go.Proofs.YtgkegfgdpekehaaGreat
/- The reference's New; what a step of DiskPlays leaves. -/
namespace Go.Proofs.YtgkegfgdpekehaaGreat
open Go.RowKit Go.Acre Go.Acre.Dk Go.Maps
theorem results_tct {P : Program} {fn : Func} {s p u : Tmp} {ty : TypeId} (h : fn.results = #[.tmp s, .cell p ty, .tmp u]) (tmps : Array Value) (w : World) (g : Nat) (t : TypeId) (cs : Array Value) (fr : Nat × Nat) (d : TypeDesc)
    (hp : tmps.getD p undef = .pointer (some ⟨g, 0, none⟩)) (hg : w.heap[g]? = some (.cells cs t fr))
    (hu : P.underlying ty = some d) (hd : (match d with | .struct _ | .array _ _ => true | _ => false) = true) (hi : (P.info? ty).map (·.size) = some cs.size) :
    (results fn tmps).run P w = .ok (.tuple #[tmps.getD s undef, .agg cs, tmps.getD u undef]) w := by
  have hp' : tmps[p]?.getD undef = .pointer (some ⟨g, 0, none⟩) := by simpa using hp
  simp [results, h, hp', asAddr, run_loadVar_row w g t ty cs fr d hg hu hd hi]
set_option maxRecDepth 100000 in
theorem rnew_any (r : Int) (w : World) (h : -9223372036854775808 ≤ r ∧ r ≤ 9223372036854775807) : Calls Tryz.prog 5 #[.int .i64 r] w fun e w' => e = .returned (.agg #[.int .i64 (r.toNat : Nat), .slice none 0 0]) ∧ Upd (fun _ => False) w w' := by
  have hx := heap_alloc (w := w) (.cells #[.int .i64 0, .slice none 0 0] 33)
  have hu : Upd (fun _ => False) w (w.alloc (.cells #[.int .i64 0, .slice none 0 0] 33)) := (Upd.refl _ w).alloc _
  have HX := Lib.hid hx
  have HU := Lib.hid hu
  have hmx : Hid (max r 0 = ((r.toNat : Nat) : Int)) := by show _ = _; omega
  go_enter Tryz.func5, Tryz.ntmps5
  go_upto_region 1 with fail
  have t0 := cell_of_heap hx 0
  have t1 := cell_of_heap hx 1
  simp only [List.getElem?_toArray, List.getElem?_cons_zero, List.getElem?_cons_succ] at t0 t1
  have z0 := frozen_of_heap hx 0 none
  have z1 := frozen_of_heap hx 1 none
  clear hx hu
  generalize w.alloc (.cells #[.int .i64 0, .slice none 0 0] 33) = wa at *
  generalize hxb : w.heap.size = xb at *
  have HXB := Lib.hid hxb
  clear hxb
  go_wp2_with fail
  try simp only [Exit.inBlock, Exit.then]
  refine bodyPost_ret (results_cell_row rfl _ _ xb 33 _ (0, 0) _ rfl (cells2 HX.out) Tryz.underlying33 rfl (by kernel_rfl)) rfl ?_
  exact ⟨by rw [hmx.out], HU.out.trans (upd2 (b := xb)) (fun i hi e => by have := HXB.out; omega)⟩
/-- the files' row is not the disk's -/
def Apart (S : Nat → Prop) (v : Value) (D : Files) : Prop := D ≠ [] → ∀ g, v.ownBlock = some g → ¬ S g
theorem FilesAt.lt {w : World} {a : Option Addr} {n cap : Nat} {D : Files} (h : FilesAt w (.slice a n cap) D) (hne : D ≠ []) : ∀ g, (Value.slice a n cap).ownBlock = some g → g < w.heap.size := by
  intro g hg
  obtain ⟨g', o, rfl, c0, _⟩ := h.cell (i := 0) (List.length_pos_iff.2 hne)
  simp [Value.ownBlock] at hg
  subst hg
  exact World.block_lt_of_cell? w _ c0
theorem FilesAt.updS {w w' : World} {v : Value} {D : Files} {S : Nat → Prop} (h : FilesAt w v D) (hu : Upd S w w') (ha : Apart S v D) : FilesAt w' v D := by
  by_cases hne : D = []
  · subst hne
    obtain ⟨h1, a, cap, h2, h3, h4, h5, h6⟩ := h
    exact ⟨h1, a, cap, h2, h3, h4, h5, fun h => (h rfl).elim⟩
  · exact RowAt.upd_own h hu (fun g hg => ha hne g hg)
def StepPost (S : Nat → Prop) (w : World) (room n : Nat) (vin : Value) (D : Files) (m : Nat) (e : Ending) (w' : World) : Prop :=
  ∃ (db' : Nat) (a' : Option Addr) (cap' : Nat) (D' : Files) (S' : Nat → Prop), e = .returned (.tuple #[.pointer (some ⟨db', 0, none⟩), .agg #[.int .i64 (room : Nat), .slice a' D'.length cap'], .bool true]) ∧ Has w' S' db' room (n + 1) D' ∧ (∀ k, S' k → S k ∨ w.heap.size ≤ k) ∧ Upd S w w' ∧
    FilesAt w' (.slice a' D'.length cap') D' ∧ Apart S' (.slice a' D'.length cap') D' ∧ Grew D D' m ∧ (Value.slice a' D'.length cap' = vin ∨ ∀ g, (Value.slice a' D'.length cap').ownBlock = some g → w.heap.size ≤ g)
end Go.Proofs.YtgkegfgdpekehaaGreat
