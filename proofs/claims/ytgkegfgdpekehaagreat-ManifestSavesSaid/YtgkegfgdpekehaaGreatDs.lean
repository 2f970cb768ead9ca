/- The reference's Same, List, Of. -/
import Derived.Test.YtgkegfgdpekehaaGreatDg
import Derived.Test.YtgkegfgdpekehaaGreatDr
namespace Go.Proofs.YtgkegfgdpekehaaGreat
open Go.RowKit Go.Acre Go.Acre.Dk Go.Maps

theorem OwnStrs.base {w : World} {b c : Nat} {v : Value} {ss : List ByteArray} (h : OwnStrs w c v ss) (hb : b ≤ c) : OwnStrs w b v ss := by
  obtain ⟨h1, h2⟩ := h
  exact ⟨h1, h2.imp id (fun ⟨x, cap, cur, e, hx, r⟩ => ⟨x, cap, cur, e, Nat.le_trans hb hx, r⟩)⟩
theorem list_take (D : Files) (p : ByteArray) {k : Nat} (h : k < D.length) : listD (D.take (k + 1)) p = listD (D.take k) p ++ (if hasPre D[k].name p = true then [D[k].name] else []) := by
  unfold listD
  rw [List.take_succ_eq_append_getElem h, List.map_append, List.filter_append]
  congr 1
  simp only [List.map_cons, List.map_nil, List.filter_cons, List.filter_nil]
  rfl
/-- a name's file -/
def ofD (D : Files) (s : ByteArray) : Ent × Bool := match get En D s with | some f => (f, true) | none => (⟨⟨#[]⟩, ⟨#[]⟩, 0⟩, false)
def agE (f : Ent) : Value := .agg #[.string f.name, .string f.bytes, .int .i64 (f.synced : Nat)]
theorem srt_pos {D : Files} (h : Srt En D) {j k : Nat} (hj : j < D.length) (hk : k < D.length) (hjk : j < k) : bf D[j].name D[k].name = true := List.pairwise_iff_getElem.1 h j k hj hk hjk
/-- in a sorted row the place that is found is the file's, if there is one -/
theorem find_get {D : Files} (h : Srt En D) (s : ByteArray) : (findB D s = true → ∃ hk : findI D s < D.length, get En D s = some D[findI D s]) ∧ (findB D s = false → get En D s = none) := by
  constructor
  · intro hb
    unfold findB at hb
    split at hb
    · rename_i f hf
      obtain ⟨hk, e⟩ := List.getElem?_eq_some_iff.1 hf
      have hn : f.name = s := by simpa using hb
      refine ⟨hk, ?_⟩
      have hm : D[findI D s] ∈ D := List.getElem_mem hk
      have := get_of En h hm
      rw [e] at this ⊢
      rw [← hn]
      exact this
    · cases hb
  · intro hb
    refine get_of_none En fun f hf e => ?_
    have e : f.name = s := e
    obtain ⟨j, hj, rfl⟩ := List.getElem_of_mem hf
    have hf1 : findI D s = j := by
      unfold findI
      rw [List.findIdx_eq hj]
      refine ⟨by simp [e, bf_irrefl], fun i hi => ?_⟩
      have := srt_pos h (by omega) hj hi
      rw [e] at this
      simp [this]
    unfold findB at hb
    rw [hf1, List.getElem?_eq_getElem hj] at hb
    simp [e] at hb
def OfPost (D : Files) (s : ByteArray) (w : World) (e : Ending) (w' : World) : Prop := e = .returned (.tuple #[agE (ofD D s).1, .bool (ofD D s).2]) ∧ Upd (fun _ => False) w w'
end Go.Proofs.YtgkegfgdpekehaaGreat
