/- Plain facts for DiskPlays: how long and how heavy the files get; a step's kind modulo seven; what a step's strings weigh. -/
import Derived.Test.YtgkegfgdpekehaaDm
import Derived.SizedLaws
namespace Go.Proofs.Ytgkegfgdpekehaa
open Go.RowKit Go.Acre Go.Acre.Dk Go.Maps

theorem seven (k : Int) : ∃ (m : Int) (q : Nat), k.tmod 7 = m ∧ -7 < m ∧ m < 7 ∧ q < 7 ∧ (m + 7).tmod 7 = (q : Int) := by
  have h1 : -7 < k.tmod 7 := by
    have := Int.lt_tmod_of_pos k (show (0 : Int) < 7 by omega)
    omega
  have h2 : k.tmod 7 < 7 := Int.tmod_lt_of_pos k (by omega)
  have h3 : 0 ≤ ((k.tmod 7) + 7).tmod 7 := Int.tmod_nonneg 7 (by omega)
  have h4 : ((k.tmod 7) + 7).tmod 7 < 7 := Int.tmod_lt_of_pos _ (by omega)
  exact ⟨_, (((k.tmod 7) + 7).tmod 7).toNat, rfl, h1, h2, by omega, by omega⟩
theorem put_len (x : Ent) (D : Files) : (put En x D).length ≤ D.length + 1 := by
  unfold put
  rw [(ins_perm En x _).length_eq, List.length_cons]
  have : (Dk.drop En (En x) D).length ≤ D.length := List.length_filter_le _ _
  omega
theorem drop_len (k : ByteArray) (D : Files) : (Dk.drop En k D).length ≤ D.length := List.length_filter_le _ _
theorem put_len_some {x : Ent} {D : Files} {f : Ent} (h : Srt En D) (hg : get En D x.name = some f) : (put En x D).length = D.length := by
  obtain ⟨hm, he⟩ := get_some En hg
  obtain ⟨l1, l2, rfl⟩ := List.append_of_mem hm
  rw [put_mid En h he.symm]
  simp
/-- at most one file more, at most so many bytes more -/
def Grew (D D' : Files) (m : Nat) : Prop := D'.length ≤ D.length + 1 ∧ total D' ≤ total D + m
theorem grew_same (D : Files) (m : Nat) : Grew D D m := ⟨by omega, by omega⟩
theorem grew_append {room : Nat} {D : Files} (h : May room D) (a b : ByteArray) : Grew D (appendD room D a b).1 b.size := by
  unfold appendD
  split
  · split
    · cases hg : get En D a with
      | none => exact ⟨put_len _ _, by rw [total_put_none (x := ⟨a, b, 0⟩) hg]; exact Nat.le_refl _⟩
      | some f =>
        have ht := total_put_some h.srt (x := ⟨a, f.bytes ++ b, f.synced⟩) hg
        simp only [ByteArray.size_append] at ht
        exact ⟨put_len _ _, by simp only; omega⟩
    · exact grew_same _ _
  · exact grew_same _ _
theorem grew_sync {room : Nat} {D : Files} (h : May room D) (a : ByteArray) (m : Nat) : Grew D (syncD D a).1 m := by
  unfold syncD
  cases hg : get En D a with
  | none => exact grew_same _ _
  | some f =>
    have hn := (get_some En hg).2
    have ht := total_put_some h.srt (x := ⟨a, f.bytes, f.bytes.size⟩) (f := f) hg
    simp only at ht
    exact ⟨put_len _ _, by simp only; omega⟩
theorem grew_rename {room : Nat} {D : Files} (h : May room D) (a b : ByteArray) (m : Nat) : Grew D (renameD D a b).1 m := by
  unfold renameD
  cases hg : get En D a with
  | none => exact grew_same _ _
  | some f =>
    simp only
    split
    · have ht := total_drop h.srt hg
      have h3 := total_put_le (srt_drop En h.srt a) ⟨b, f.bytes, f.synced⟩
      simp only at h3
      exact ⟨Nat.le_trans (put_len _ _) (Nat.add_le_add_right (drop_len a D) 1), by simp only; omega⟩
    · exact grew_same _ _
theorem grew_remove {room : Nat} {D : Files} (h : May room D) (a : ByteArray) (m : Nat) : Grew D (removeD D a).1 m := by
  unfold removeD
  cases hg : get En D a with
  | none => exact grew_same _ _
  | some f =>
    have ht := total_drop h.srt hg
    exact ⟨by have := drop_len a D; simp only; omega, by simp only; omega⟩
theorem grew_crash {room : Nat} {D : Files} (h : May room D) (zs : List Int) (m : Nat) : Grew D (crashD D zs) m := by
  refine ⟨by unfold crashD; simp, ?_⟩
  have := total_mapIdx_le (D := D) (g := fun i f => cutE zs[i]? f) (fun i f hf => (cutE_synced _ (h.syn f hf)).2.1)
  unfold crashD
  omega
theorem May.sizes {room : Nat} {D : Files} (h : May room D) (ht : total D ≤ 4611686018427387904) : ∀ f ∈ D, f.synced ≤ f.bytes.size ∧ f.bytes.size ≤ 4611686018427387904 :=
  fun f hf => ⟨h.syn f hf, Nat.le_trans (size_le_total hf) ht⟩
/-- no element's second string, and no element's list, is longer than what can be handed in -/
def DosB (w : World) (a : Option Addr) (len : Nat) : Prop := ∀ i, i < len → ∀ (g o : Nat), a = some ⟨g, o, none⟩ →
  (∀ dt : ByteArray, w.cell? ⟨g, o + i * 4 + 2, none⟩ = some (.string dt) → dt.size ≤ 140737488351232) ∧ (∀ (ka : Option Addr) (kl kc : Nat), w.cell? ⟨g, o + i * 4 + 3, none⟩ = some (.slice ka kl kc) → kl * 8 ≤ 140737488351232)
section
open Go.ChangeShapes Go.WideShapes Go.Deep
variable {H : Type} {enc : TypeId × Value → H} {w : World} {base : Nat} {held : Bool}
theorem weights_all_mem {P : Program} {e : TypeId} {d : DataW H} : ∀ {l : List (DataW H)}, d ∈ l → ∀ n ∈ d.weights P e, n ∈ DataW.weightsAll P e l
  | x :: r, hd, n, hn => by
    simp only [DataW.weightsAll, List.mem_append]
    rcases List.mem_cons.1 hd with rfl | h
    · exact .inl hn
    · exact .inr (weights_all_mem h n hn)
theorem open_slice_full {P : Program} {spare : Nat → Bool} {t e : TypeId} {fs : Array Field} {fuel : Nat} {cs : List Value} {x : DataW H × List MemPlace} (ht : P.underlying t = some (.slice e)) (he : P.underlying e = some (.struct fs))
    (hone : oneCellFields P fs = true) (hC : P.cellsOf e = fs.size) (h : DataW.trod enc P w base spare held fuel t cs = some x) :
    (cs = [.slice none 0 0] ∧ x = (.nil, [])) ∨
    ∃ (a : Addr) (len cap m : Nat) (D : Nat → DataW H) (Pl : Nat → List MemPlace), cs = [.slice (some a) len cap] ∧ base ≤ a.block ∧ len ≤ cap ∧ cap ≤ maxLen ∧ m = (if spare a.block then cap else len) ∧
      x = (.slice ((List.range len).map D) ((List.range (m - len)).map fun j => D (len + j)), MemPlace.row a (m * fs.size) ++ (List.range m).flatMap Pl) ∧
      ∀ i, i < m → ∃ (ys : List (DataW H × List MemPlace)) (n : Nat), D i = .agg (ys.map (·.1)) ∧ Pl i = ys.flatMap (·.2) ∧ ys.length = fs.size ∧
        ∀ (j : Nat) (f : Field), fs[j]? = some f → ∃ (v : Value) (y : DataW H × List MemPlace), w.cell? (a.add (i * fs.size + j)) = some v ∧ ys[j]? = some y ∧ DataW.trod enc P w base spare held n f.type [v] = some y := by
  rcases open_slice ht h with h0 | ⟨a, len, cap, m, n, D, Pl, hcs, hb, hl, hm, hmm, hx, hi⟩
  · exact .inl h0
  · refine .inr ⟨a, len, cap, m, D, Pl, hcs, hb, hl, hm, hmm, by rw [hC] at hx; exact hx, fun i him => ?_⟩
    obtain ⟨cs', hc, ht'⟩ := hi i him
    rw [hC] at hc
    obtain ⟨ys, n', hn', hy, hlen, hyl, hf⟩ := DataW.trod_struct he ht'
    obtain ⟨_, hcl, hat⟩ := World.cells?_some hc
    simp only [Prod.mk.injEq] at hy
    refine ⟨ys, n', hy.1, hy.2, hyl, fun j f hj => ?_⟩
    obtain ⟨ho, hk⟩ := hone_of hone j f hj
    have hjl : j < fs.size := (Array.getElem?_eq_some_iff.1 hj).1
    have hcell := hat j hjl
    have hv : cs'[j]? = some (cs'[j]'(by omega)) := List.getElem?_eq_getElem (by omega)
    have h1 := hf j f hj
    rw [ho, hk] at h1
    have hone' : (cs'.drop j).take 1 = [cs'[j]'(by omega)] := by
      rw [List.drop_eq_getElem_cons (by omega)]
      rfl
    rw [hone'] at h1
    have hys : ys[j]? = some (ys[j]'(by omega)) := List.getElem?_eq_getElem (by omega)
    refine ⟨_, _, ?_, hys, h1.trans hys⟩
    rw [← Go.Deep.add_add, hcell, hv]
theorem dos_sized {fuel len cap : Nat} {a : Option Addr} {x : DataW H × List MemPlace} (h : DataW.trod enc Try.prog w base (fun _ => true) held fuel 66 (Value.slice a len cap).cells.toList = some x)
    (hw : ∀ n ∈ x.1.weights Try.prog 66, n ≤ reachBytes) : DosB w a len := by
  rcases open_slice_full Try.underlying66 Try.underlying74 (by kernel_rfl) (by kernel_rfl) h with ⟨hcs, _⟩ | ⟨⟨b, off, spot⟩, l, c, m, D, Pl, hcs, hb, hl, hm, hmm, hx, hi⟩
  · simp [Value.cells] at hcs
    obtain ⟨rfl, rfl, rfl⟩ := hcs
    intro i hi
    omega
  · simp [Value.cells] at hcs
    obtain ⟨rfl, rfl, rfl⟩ := hcs
    have hmc : m = cap := by simpa using hmm
    intro i hil g o ha
    simp only [Option.some.injEq, Addr.mk.injEq] at ha
    obtain ⟨rfl, rfl, rfl⟩ := ha
    obtain ⟨ys, n, hD, _, hyl, hf⟩ := hi i (by omega)
    have hup : ∀ z ∈ (D i).weights Try.prog 74, z ≤ reachBytes := fun z hz => hw z (by
      rw [hx]
      simp only [DataW.weights, Try.underlying66, List.mem_cons, List.mem_append]
      exact .inr (.inl (weights_all_mem (List.mem_map.2 ⟨i, List.mem_range.2 hil, rfl⟩) _ hz)))
    have hin : ∀ z ∈ DataW.weightsEach Try.prog [3, 9, 9, 40] (ys.map (·.1)), z ≤ reachBytes := by
      intro z hz
      refine hup z ?_
      rw [hD]
      simp only [DataW.weights, Try.underlying74]
      exact hz
    refine ⟨fun dt hcell => ?_, fun ka kl kc hcell => ?_⟩
    · obtain ⟨v, y, hc, hy, ht⟩ := hf 2 _ rfl
      obtain ⟨s, e1, e2, _⟩ := DataW.trod_string Try.underlying9 ht
      simp only [List.cons.injEq, and_true] at e1
      subst e1
      rw [none_add, ← Nat.add_assoc] at hc
      have hc2 : w.cell? ⟨b, off + i * 4 + 2, none⟩ = some (.string s) := hc
      rw [hcell] at hc2
      obtain rfl : dt = s := by simpa using hc2
      have h1 := hin _ (DataW.weights_mem_each (j := 2) (t := 9) (d := .lit (.string dt.data.toList)) rfl (by rw [List.getElem?_map, hy, e2]; rfl) dt.data.toList.length (by simp [DataW.weights]))
      have e : dt.data.toList.length = dt.size := by rw [Array.length_toList]; rfl
      rw [e] at h1
      unfold reachBytes at h1
      omega
    · obtain ⟨v, y, hc, hy, ht⟩ := hf 3 _ rfl
      rw [none_add, ← Nat.add_assoc] at hc
      have hc2 : w.cell? ⟨b, off + i * 4 + 3, none⟩ = some v := hc
      rw [hcell] at hc2
      obtain rfl : Value.slice ka kl kc = v := by simpa using hc2
      rcases open_slice Try.underlying40 ht with ⟨e3, _⟩ | ⟨_, l3, c3, m3, n3, D3, P3, e3, _, _, _, _, hx3, _⟩
      · simp only [List.cons.injEq, and_true, Value.slice.injEq] at e3
        omega
      · simp only [List.cons.injEq, and_true, Value.slice.injEq] at e3
        obtain ⟨_, rfl, rfl⟩ := e3
        have hb3 : Try.prog.bytesOf 3 = 8 := by kernel_rfl
        have h1 := hin _ (DataW.weights_mem_each (j := 3) (t := 40) (d := y.1) rfl (by rw [List.getElem?_map, hy]; rfl) ((((List.range kl).map D3).length + ((List.range (m3 - kl)).map fun j => D3 (kl + j)).length) * Try.prog.bytesOf 3) (by rw [hx3]; simp only [DataW.weights, Try.underlying40, List.mem_cons]; exact .inl trivial))
        rw [hb3] at h1
        simp only [List.length_map, List.length_range] at h1
        unfold reachBytes at h1
        omega
end
end Go.Proofs.Ytgkegfgdpekehaa
