/- The walk of Copy. -/
import Derived.Test.YtgkegfgdpekehaaGreatDh
import Derived.Maps.RangeWalk
import Derived.Maps.Ext
namespace Go.Proofs.YtgkegfgdpekehaaGreat
open Go.RowKit Go.Acre Go.Acre.Dk Go.Maps

theorem srt_ext {l1 l2 : Files} (h1 : Srt En l1) (h2 : Srt En l2) (h : ∀ x, x ∈ l1 ↔ x ∈ l2) : l1 = l2 := by
  induction l1 generalizing l2 with
  | nil =>
    cases l2 with
    | nil => rfl
    | cons y r => exact absurd ((h y).2 (by simp)) (by simp)
  | cons x r ih =>
    cases l2 with
    | nil => exact absurd ((h x).1 (by simp)) (by simp)
    | cons y s =>
      obtain ⟨a1, b1⟩ := List.pairwise_cons.1 h1
      obtain ⟨a2, b2⟩ := List.pairwise_cons.1 h2
      have hxy : x = y := by
        rcases List.mem_cons.1 ((h x).1 (by simp)) with e | hx
        · exact e
        · rcases List.mem_cons.1 ((h y).2 (by simp)) with e | hy
          · exact e.symm
          · have c1 := a2 x hx
            have c2 := a1 y hy
            rw [bf_asymm c1] at c2
            cases c2
      subst hxy
      congr 1
      refine ih b1 b2 fun z => ?_
      constructor
      · intro hz
        rcases List.mem_cons.1 ((h z).1 (by simp [hz])) with e | h'
        · have := a1 z hz
          rw [e, bf_irrefl] at this
          cases this
        · exact h'
      · intro hz
        rcases List.mem_cons.1 ((h z).2 (by simp [hz])) with e | h'
        · have := a2 z hz
          rw [e, bf_irrefl] at this
          cases this
        · exact h'
def seen (left : Lit → Bool) (D : Files) : Files := D.filter fun f => !left (key f.name)
theorem seen_srt {left : Lit → Bool} {D : Files} (h : Srt En D) : Srt En (seen left D) := List.Pairwise.filter _ h
theorem seen_step {left : Lit → Bool} {D : Files} (h : Srt En D) {f : Ent} (hf : f ∈ D) : put En f (seen left D) = seen (fun z => left z && !z.sameKey (key f.name)) D := by
  refine srt_ext (srt_put En (seen_srt h)) (seen_srt h) fun y => ?_
  rw [mem_put]
  unfold seen
  simp only [List.mem_filter, same_key, Bool.not_eq_true', Bool.and_eq_false_iff, Bool.not_eq_false', decide_eq_true_eq]
  constructor
  · rintro (rfl | ⟨⟨h1, h2⟩, h3⟩)
    · exact ⟨hf, .inr rfl⟩
    · exact ⟨h1, .inl h2⟩
  · rintro ⟨h1, h2 | h2⟩
    · by_cases e : En y = En f
      · exact .inl (srt_eq En h h1 hf e)
      · exact .inr ⟨⟨h1, h2⟩, e⟩
    · exact .inl (srt_eq En h h1 hf h2)
theorem seen_start (E : List EB) : seen (has (DataW.map (ents E))) (plain E) = [] := by
  unfold seen
  rw [List.filter_eq_nil_iff]
  intro f hf
  obtain ⟨x, hx, rfl⟩ := List.mem_map.1 hf
  simp only [has_eq, Bool.not_eq_true, Bool.not_eq_false', List.any_eq_true]
  exact ⟨_, List.mem_map.2 ⟨x, hx, rfl⟩, by rw [same_key]; simp⟩
theorem seen_end {left : Lit → Bool} {D : Files} (h : ∀ kl, left kl = false) : seen left D = D := by
  unfold seen
  rw [List.filter_eq_self]
  intro f _
  rw [h]
  rfl
def mkV : Option Nat → Value
  | none => .pointer none
  | some b => .pointer (some ⟨b, 0, none⟩)
theorem RB_inv (v : Value) (y : DataW Nat × List MemPlace) (h : RB v = some y) : ∃ c, v = mkV c := by
  unfold RB at h
  split at h
  · exact ⟨some _, rfl⟩
  · exact ⟨none, rfl⟩
  · cases h
theorem key_inv (k : Value) (kl : Lit) (h : keyOf Tryz.prog 9 k = some kl) : ∃ s, k = Value.string s := by
  obtain ⟨x, rfl, _⟩ := Maps.keyOf_str Tryz.underlying9 h
  exact ⟨_, rfl⟩
theorem key_is {s : ByteArray} {kl : Lit} (h : keyOf Tryz.prog 9 (.string s) = some kl) : kl = key s ∧ s.size ≤ maxLen := by
  obtain ⟨x, hx, rfl, hl⟩ := Maps.keyOf_str Tryz.underlying9 h
  simp only [encStr, Value.string.injEq] at hx
  subst hx
  refine ⟨rfl, ?_⟩
  show x.toArray.size ≤ maxLen
  simpa using hl
theorem at_some {E : List EB} {s : ByteArray} {d : DataW Nat} (h : ∀ zd, (DataW.map (ents E)).atKey (key s) zd = d) : ∃ f b, get Bn E s = some (f, b) ∧ d = .held b := by
  have h1 := h .nil
  have h2 := h (.held 0)
  rw [ents_at] at h1
  cases hg : get Bn E s with
  | some x => rw [hg] at h1; exact ⟨x.1, x.2, rfl, h1.symm⟩
  | none =>
    exfalso
    rw [hg] at h1
    have hh : has (DataW.map (ents E)) (key s) = false := by
      rw [has_eq, List.any_eq_false]
      intro p hp
      obtain ⟨x, hx, rfl⟩ := List.mem_map.1 hp
      rw [same_key]
      simpa using get_none Bn hg x hx
    rw [atKey_of_not_has hh] at h2
    rw [← h1] at h2
    cases h2

def CopyPost (room n : Nat) (D : Files) (w : World) (e : Ending) (w' : World) : Prop := ∃ db S, e = .returned (.pointer (some ⟨db, 0, none⟩)) ∧ Has w' S db room n D ∧ (∀ k, S k → w.heap.size ≤ k) ∧ Upd (fun _ => False) w w'
/-- the copy as far as it has come -/
structure Copying (w0 w : World) (dc mc room used : Nat) (E' : List EB) (m : Nat) : Prop where
  nodup : (E'.map fun x => x.2).Nodup
  file : ∀ x ∈ E', w0.heap.size ≤ x.2 ∧ fileAt w x
  map : w.ownsMap Tryz.prog 9 RB mc m (.map (ents E'))
  root : rootAt w dc room used mc
  low : w0.heap.size ≤ mc ∧ w0.heap.size ≤ dc
theorem Copying.end {w0 w : World} {dc mc room m : Nat} {E' : List EB} {D : Files} (h : Copying w0 w dc mc room (total D) E' m) (hp : plain E' = D) (hm : May room D) (hb : room ≤ 9223372036854775807) {n : Nat} (hmn : m ≤ n) :
    Has w (fun k => k = dc ∨ k = mc ∨ k ∈ E'.map fun x => x.2) dc room n D := by
  subst hp
  refine ⟨E', ⟨hm, hb, h.nodup, fun x hx => ⟨.inr (.inr (List.mem_map.2 ⟨x, hx, rfl⟩)), (h.file x hx).2⟩, .inl rfl, ?_, mc, .inr (.inl rfl), h.root, h.map.mono hmn⟩, rfl⟩
  rintro k (rfl | rfl | hk)
  · exact lt_of_heap h.root
  · exact h.map.lt
  · obtain ⟨x, hx, rfl⟩ := List.mem_map.1 hk
    exact lt_of_heap (h.file x hx).2

end Go.Proofs.YtgkegfgdpekehaaGreat
