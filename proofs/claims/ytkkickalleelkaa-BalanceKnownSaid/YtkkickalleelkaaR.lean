/- The walks of three and works. -/
import Derived.Test.YtkkickalleelkaaQ
namespace Go.Proofs.Ytkkickalleelkaa
open Go.RowKit Go.Acre
attribute [local go_sem] run_store_float run_store_complex
def ls3 : List Lo := [⟨3, [0, 1]⟩, ⟨4, [0]⟩, ⟨5, [2]⟩]
def qs3 : List CX := [(4617315517961601024, 0), (4611686018427387904, 4607182418800017408), (4607182418800017408, 0)]
def ThreePost (w : World) (e : Ending) (w' : World) : Prop := ∃ a b, e = .returned (.tuple #[.slice (some ⟨a, 0, none⟩) 3 3, .slice (some ⟨b, 0, none⟩) 3 3]) ∧ LocsAt w' (some ⟨a, 0, none⟩) 3 ls3 ∧ w'.heap[b]? = some (.cells (outCells qs3) 28 (0, 0)) ∧ w.heap.size ≤ b ∧ Upd (fun _ => False) w w'
theorem five (w : World) (o0 o1 o2 o3 o4 : Obj) : ((((((w.alloc o0).alloc o1).alloc o2).alloc o3).alloc o4).heap[w.heap.size]? = some o0) ∧ ((((((w.alloc o0).alloc o1).alloc o2).alloc o3).alloc o4).heap[w.heap.size + 1]? = some o1) ∧ ((((((w.alloc o0).alloc o1).alloc o2).alloc o3).alloc o4).heap[w.heap.size + 1 + 1]? = some o2) ∧ ((((((w.alloc o0).alloc o1).alloc o2).alloc o3).alloc o4).heap[w.heap.size + 1 + 1 + 1]? = some o3) ∧ ((((((w.alloc o0).alloc o1).alloc o2).alloc o3).alloc o4).heap[w.heap.size + 1 + 1 + 1 + 1]? = some o4) := by
  have u : ∀ (v : World) (o : Obj), Upd (fun _ => False) v (v.alloc o) := fun v o => (Upd.refl _ v).alloc o
  have h0 := heap_alloc (w := w) o0
  have h1 := heap_alloc (w := w.alloc o0) o1
  have h2 := heap_alloc (w := (w.alloc o0).alloc o1) o2
  have h3 := heap_alloc (w := ((w.alloc o0).alloc o1).alloc o2) o3
  have h4 := heap_alloc (w := (((w.alloc o0).alloc o1).alloc o2).alloc o3) o4
  simp only [World.size_alloc] at h1 h2 h3 h4
  exact ⟨(u _ _).keep ((u _ _).keep ((u _ _).keep ((u _ _).keep h0 (fun f => f)) (fun f => f)) (fun f => f)) (fun f => f), (u _ _).keep ((u _ _).keep ((u _ _).keep h1 (fun f => f)) (fun f => f)) (fun f => f), (u _ _).keep ((u _ _).keep h2 (fun f => f)) (fun f => f), (u _ _).keep h3 (fun f => f), h4⟩
set_option maxRecDepth 100000 in
theorem three_any (w : World) : Calls Try.prog 14 #[] w (ThreePost w) := by
  go_enter Try.func14, Try.ntmps14
  go_wp2_with fail
  obtain ⟨h0, h1, h2, h3, h4⟩ := five w (.cells #[.int .i64 0, .int .i64 1] 3) (.cells #[.int .i64 0] 3) (.cells #[.int .i64 2] 3) (.cells #[.int .i64 3, .string ⟨#[]⟩, .string ⟨#[]⟩, .int .u64 0, .slice (some ⟨w.heap.size, 0, none⟩) 2 2, .int .i64 4, .string ⟨#[]⟩, .string ⟨#[]⟩, .int .u64 0, .slice (some ⟨w.heap.size + 1, 0, none⟩) 1 1, .int .i64 5, .string ⟨#[]⟩, .string ⟨#[]⟩, .int .u64 0, .slice (some ⟨w.heap.size + 1 + 1, 0, none⟩) 1 1] 63) (.cells (outCells qs3) 28)
  go_ret2
  refine ⟨_, _, rfl, ⟨rfl, fun i hi => ?_⟩, h4, by omega, (((((Upd.refl _ w).alloc _).alloc _).alloc _).alloc _).alloc _⟩
  have hi3 : i < 3 := hi
  have ints : ∀ {g : Nat} {zs : List Int} {v : World}, v.heap[g]? = some (.cells (zs.map (.int .i64)).toArray 3 (0, 0)) → zs.length ≤ 2 → (∀ z ∈ zs, 0 ≤ z ∧ z ≤ 2) → ∀ gr : Int, 0 ≤ gr ∧ gr ≤ 5 → LoAt v (.slice (some ⟨g, 0, none⟩) zs.length zs.length) ⟨gr, zs⟩ := by
    intro g zs v hg hz hw gr hgr
    refine ⟨IntsAt.mk rfl (Nat.le_refl _) (by unfold maxLen; omega) (fun j hj => ?_), by simp only; omega, fun z hz2 => by have := hw z hz2; omega, by simp only; omega⟩
    rw [Nat.zero_add, cell_of_heap hg j]
    simp [hj]
  rcases (show i = 0 ∨ i = 1 ∨ i = 2 by omega) with rfl | rfl | rfl
  · exact ⟨_, 0, _, rfl, cell_of_heap h3 0, cell_of_heap h3 1, cell_of_heap h3 2, cell_of_heap h3 3, cell_of_heap h3 4, ints (zs := [0, 1]) h0 (by simp) (by simp) 3 (by omega)⟩
  · exact ⟨_, 0, _, rfl, cell_of_heap h3 5, cell_of_heap h3 6, cell_of_heap h3 7, cell_of_heap h3 8, cell_of_heap h3 9, ints (zs := [0]) h1 (by simp) (by simp) 4 (by omega)⟩
  · exact ⟨_, 0, _, rfl, cell_of_heap h3 10, cell_of_heap h3 11, cell_of_heap h3 12, cell_of_heap h3 13, cell_of_heap h3 14, ints (zs := [2]) h2 (by simp) (by simp) 5 (by omega)⟩
end Go.Proofs.Ytkkickalleelkaa
