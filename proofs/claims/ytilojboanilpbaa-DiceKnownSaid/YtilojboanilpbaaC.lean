/- What New, Left and Copy of dice, and of the reference, come to: walks over the seat, for bytes of at most 100000. -/
import Derived.Test.YtilojboanilpbaaRows
import Derived.Test.YtilojboanilpbaaL
namespace Go.Proofs.Ytilojboanilpbaa
open Go.RowKit Go.Acre

theorem Try.info5 : (Try.prog.info? 5).map (fun i => (i.zero, i.size, i.bytes)) = some (some (.int .u8 0), 1, 1) := by kernel_rfl

/-- Block B holds one slice of bytes. -/
def BoxAt (T : TypeId) (B : Nat) (w : World) (bs : List Int) : Prop :=
  ∃ v, w.heap[B]? = some (.cells #[v] T (0, 0)) ∧ IntsAt .u8 w v bs

def NewPost (T : TypeId) (bs : List Int) (w : World) (e : Ending) (w' : World) : Prop :=
  ∃ B, e = .returned (.pointer (some ⟨B, 0, none⟩)) ∧ w.heap.size ≤ B ∧ BoxAt T B w' bs ∧ Upd (fun _ => False) w w'

theorem box_alloc {T : TypeId} {w : World} {v : Value} {bs : List Int} (h : IntsAt .u8 w v bs) : BoxAt T w.heap.size (w.alloc (.cells #[v] T)) bs :=
  ⟨v, heap_alloc _, h.upd0 ((Upd.refl _ w).alloc _)⟩

theorem new_any (v : Value) (bs : List Int) (w : World) (hv : IntsAt .u8 w v bs) (hlen : bs.length ≤ 100000) :
    Calls Try.prog 8 #[v] w (NewPost 37 bs w) := by
  obtain ⟨i0, hi, hz0, hz1, hz2⟩ := info_parts Try.info5
  go_enter Try.func8, Try.ntmps8
  go_wp2_with (at_builtin; refine wpList_append_row rfl _ _ 22 rfl w.heap.size 5 i0 (.int .u8 0) 1 1 Try.underlying22 hi hz0 hz1 hz2 rfl (by decide) _ _ _ rfl (World.ownsRow_nil _ _ _ _) v _ _ rfl hv ?c3 ?c4 ?c5 ?c6 ?_)
  case c3 => exact ints_oneCell _ _
  case c4 => unfold maxLen; omega
  case c5 => omega
  case c6 => exact Nat.le_refl _
  intro v' w1 hown hg
  try simp only [Nat.zero_add, List.nil_append] at hown
  have hi1 := IntsAt.of_own hown
  have hu := (Upd.refl (fun _ => False) w).of_grown hg (by intro k hk; cases hk)
  clear hown hg hv
  obtain ⟨a', c', rfl⟩ := hi1.slice
  go_wp2
  go_ret
  exact ⟨_, rfl, hu.size, box_alloc hi1, hu.alloc _⟩

theorem rnew_any (v : Value) (bs : List Int) (w : World) (hv : IntsAt .u8 w v bs) (hlen : bs.length ≤ 100000) :
    Calls Try.prog 12 #[v] w (NewPost 39 bs w) := by
  obtain ⟨i0, hi, hz0, hz1, hz2⟩ := info_parts Try.info5
  go_enter Try.func12, Try.ntmps12
  go_wp2_with (at_builtin; refine wpList_append_row rfl _ _ 22 rfl w.heap.size 5 i0 (.int .u8 0) 1 1 Try.underlying22 hi hz0 hz1 hz2 rfl (by decide) _ _ _ rfl (World.ownsRow_nil _ _ _ _) v _ _ rfl hv ?c3 ?c4 ?c5 ?c6 ?_)
  case c3 => exact ints_oneCell _ _
  case c4 => unfold maxLen; omega
  case c5 => omega
  case c6 => exact Nat.le_refl _
  intro v' w1 hown hg
  try simp only [Nat.zero_add, List.nil_append] at hown
  have hi1 := IntsAt.of_own hown
  have hu := (Upd.refl (fun _ => False) w).of_grown hg (by intro k hk; cases hk)
  clear hown hg hv
  obtain ⟨a', c', rfl⟩ := hi1.slice
  go_wp2
  go_ret
  exact ⟨_, rfl, hu.size, box_alloc hi1, hu.alloc _⟩

/-- the slice's length in a box -/
theorem left_any (B : Nat) (bs : List Int) (w : World) (h : BoxAt 37 B w bs) :
    Calls Try.prog 9 #[.pointer (some ⟨B, 0, none⟩)] w fun e w' => e = .returned (.int .i64 bs.length) ∧ w = w' := by
  obtain ⟨v, hb, _, a, cap, rfl, _⟩ := h
  have hc := cell_of_heap hb 0
  simp only [List.getElem?_toArray, List.getElem?_cons_zero] at hc
  go_enter Try.func9, Try.ntmps9
  go_wp2
  go_ret
  exact ⟨rfl, rfl⟩
theorem left_nil (w : World) : Calls Try.prog 9 #[.pointer none] w fun e w' => e = .returned (.int .i64 0) ∧ w = w' := by
  go_enter Try.func9, Try.ntmps9
  go_wp2
  go_ret
  exact ⟨rfl, rfl⟩
theorem rleft_any (B : Nat) (bs : List Int) (w : World) (h : BoxAt 39 B w bs) :
    Calls Try.prog 15 #[.pointer (some ⟨B, 0, none⟩)] w fun e w' => e = .returned (.int .i64 bs.length) ∧ w = w' := by
  obtain ⟨v, hb, _, a, cap, rfl, _⟩ := h
  have hc := cell_of_heap hb 0
  simp only [List.getElem?_toArray, List.getElem?_cons_zero] at hc
  go_enter Try.func15, Try.ntmps15
  go_wp2
  go_ret
  exact ⟨rfl, rfl⟩
theorem copy_nil (w : World) : Calls Try.prog 13 #[.pointer none] w fun e w' => e = .returned (.pointer none) ∧ w = w' := by
  go_enter Try.func13, Try.ntmps13
  go_wp2
  go_ret
  exact ⟨rfl, rfl⟩
theorem copy_any (B : Nat) (bs : List Int) (w : World) (h : BoxAt 37 B w bs) (hlen : bs.length ≤ 100000) :
    Calls Try.prog 13 #[.pointer (some ⟨B, 0, none⟩)] w (NewPost 37 bs w) := by
  obtain ⟨v, hb, hv⟩ := h
  have hc := cell_of_heap hb 0
  simp only [List.getElem?_toArray, List.getElem?_cons_zero] at hc
  go_enter Try.func13, Try.ntmps13
  go_wp2_with (go_at_call 8; refine (new_any _ _ _ hv hlen).mono ?_; rintro e w' ⟨B', rfl, h1, h2, h3⟩)
  go_ret
  exact ⟨B', rfl, h1, h2, h3⟩
end Go.Proofs.Ytilojboanilpbaa
