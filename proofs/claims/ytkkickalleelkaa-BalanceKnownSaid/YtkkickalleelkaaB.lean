/- The walks of User (both), Has, Check, Split. -/
import Derived.Test.YtkkickalleelkaaA
namespace Go.Proofs.Ytkkickalleelkaa
open Go.RowKit Go.Acre
theorem bytes_nil {b : ByteArray} (h : b.size = 0) : b = ⟨#[]⟩ := by
  have h2 : b.data.size = 0 := h
  obtain ⟨d⟩ := b
  simp only [Array.size_eq_zero_iff] at h2
  rw [h2]
theorem isEmpty_true {b : ByteArray} (h : b.size = 0) : b.toList.isEmpty = true := by
  rw [bytes_nil h]
  decide +kernel
theorem isEmpty_of_pos {b : ByteArray} (h : 0 < b.size) : b.toList.isEmpty = false := by
  cases he : b.toList with
  | nil =>
    rw [ByteArray.toList_eq] at he
    have h2 := congrArg List.length he
    rw [Array.length_toList] at h2
    have : b.size = 0 := h2
    omega
  | cons a r => rfl
def userB (s : ByteArray) : Bool := decide (1 ≤ s.size ∧ s.size ≤ 24)
def BoolPost (b : Bool) (w : World) (e : Ending) (w' : World) : Prop := e = .returned (.bool b) ∧ w = w'
theorem user_any (s : ByteArray) (w : World) (hs : s.size ≤ 9223372036854775807) : Calls Try.prog 18 #[.string s] w (BoolPost (userB s) w) := by
  by_cases h0 : s.size = 0
  · obtain rfl := bytes_nil h0
    clear h0
    go_enter Try.func18, Try.ntmps18
    go_wp2_with fail
    go_ret
    exact ⟨rfl, rfl⟩
  · have hb : userB s = decide ((s.size : Int) ≤ 24) := by unfold userB; rw [Bool.eq_iff_iff]; simp; omega
    rw [hb]
    have hne : s.toList.isEmpty = false := isEmpty_of_pos (by omega)
    clear hb
    go_enter Try.func18, Try.ntmps18
    go_wp2_with fail
    go_ret
    exact ⟨rfl, rfl⟩
theorem ruser_any (s : ByteArray) (w : World) (hs : s.size ≤ 9223372036854775807) : Calls Try.prog 23 #[.string s] w (BoolPost (userB s) w) := by
  by_cases h0 : 1 ≤ s.size
  · have hb : userB s = decide ((s.size : Int) ≤ 24) := by unfold userB; rw [Bool.eq_iff_iff]; simp; omega
    rw [hb]
    have h1 : (1 : Int) ≤ (s.size : Int) := by omega
    clear hb
    go_enter Try.func23, Try.ntmps23
    go_wp2_with fail
    go_ret
    exact ⟨rfl, rfl⟩
  · have hb : userB s = false := by unfold userB; simp; omega
    rw [hb]
    have h1 : ¬ (1 : Int) ≤ (s.size : Int) := by omega
    clear hb
    go_enter Try.func23, Try.ntmps23
    go_wp2_with fail
    go_ret
    exact ⟨rfl, rfl⟩
def PureUpd (v : Value) (w : World) (e : Ending) (w' : World) : Prop := e = .returned v ∧ Upd (fun _ => False) w w'
theorem box2 {w : World} {xb : Nat} {t : TypeId} {a b : Value} (h : w.heap[xb]? = some (.cells #[a, b] t (0, 0))) : w.cell? ⟨xb, 0, none⟩ = some a ∧ w.cell? ⟨xb, 1, none⟩ = some b ∧ w.frozen? ⟨xb, 0, none⟩ = false ∧ w.frozen? ⟨xb, 1, none⟩ = false :=
  ⟨cell_of_heap h 0, cell_of_heap h 1, frozen_of_heap h 0 none, frozen_of_heap h 1 none⟩
def ltB (a b : ByteArray) : Bool := Op.bytesLess a.toList b.toList
def leB (a b : ByteArray) : Bool := Op.bytesLess a.toList b.toList || a.toList == b.toList
def hasB (lo hi s : ByteArray) : Bool := !ltB s lo && (hi.toList.isEmpty || ltB s hi)
set_option maxRecDepth 100000 in
theorem has_any (lo hi s : ByteArray) (w : World) : Calls Try.prog 33 #[.agg #[.string lo, .string hi], .string s] w (PureUpd (.bool (hasB lo hi s)) w) := by
  have hu : Upd (fun _ => False) w (w.alloc (.cells #[.string lo, .string hi] 24)) := (Upd.refl _ w).alloc _
  obtain ⟨p0, p1, _, _⟩ := box2 (heap_alloc (w := w) (.cells #[.string lo, .string hi] 24))
  have HU := Lib.hid hu
  clear hu
  have key : ∀ b : Bool, hasB lo hi s = b → (ltB s lo = true ∧ b = false) ∨ (ltB s lo = false ∧ hi.toList.isEmpty = true ∧ b = true) ∨ (ltB s lo = false ∧ hi.toList.isEmpty = false ∧ b = ltB s hi) := by
    rintro b rfl
    unfold hasB
    cases ltB s lo <;> cases hi.toList.isEmpty <;> simp
  rcases key _ rfl with ⟨h1, h2⟩ | ⟨h1, he, h2⟩ | ⟨h1, he, h2⟩
  all_goals
    rw [h2]
    unfold ltB at h1
    clear key h2
    go_enter Try.func33, Try.ntmps33
    go_upto_region 1 with fail
    generalize w.alloc (.cells #[.string lo, .string hi] 24) = wb at *
    generalize w.heap.size = xb at *
    go_wp2_with fail
    go_ret
    exact ⟨rfl, HU.out⟩
def checkB (lo hi : ByteArray) : Bool := decide (lo.size ≤ 24) && (decide (hi.size ≤ 24) && (hi.toList.isEmpty || !leB hi lo))
set_option maxRecDepth 100000 in
theorem check_any (lo hi : ByteArray) (w : World) (hl : lo.size ≤ 9223372036854775807) (hh : hi.size ≤ 9223372036854775807) : Calls Try.prog 19 #[.agg #[.string lo, .string hi]] w (PureUpd (.int .i64 (if checkB lo hi = true then 0 else 2)) w) := by
  have hu : Upd (fun _ => False) w (w.alloc (.cells #[.string lo, .string hi] 24)) := (Upd.refl _ w).alloc _
  obtain ⟨p0, p1, _, _⟩ := box2 (heap_alloc (w := w) (.cells #[.string lo, .string hi] 24))
  have HU := Lib.hid hu
  clear hu
  have key : ∀ b : Bool, checkB lo hi = b → ((24 : Int) < lo.size ∧ b = false) ∨ (¬ (24 : Int) < lo.size ∧ (24 : Int) < hi.size ∧ b = false) ∨ (¬ (24 : Int) < lo.size ∧ ¬ (24 : Int) < hi.size ∧ hi.toList.isEmpty = true ∧ b = true) ∨ (¬ (24 : Int) < lo.size ∧ ¬ (24 : Int) < hi.size ∧ hi.toList.isEmpty = false ∧ leB hi lo = true ∧ b = false) ∨ (¬ (24 : Int) < lo.size ∧ ¬ (24 : Int) < hi.size ∧ hi.toList.isEmpty = false ∧ leB hi lo = false ∧ b = true) := by
    rintro b rfl
    unfold checkB
    by_cases h1 : lo.size ≤ 24
    · by_cases h2 : hi.size ≤ 24
      · have e1 : ¬ (24 : Int) < lo.size := by omega
        have e2 : ¬ (24 : Int) < hi.size := by omega
        simp only [h1, h2, e1, e2, decide_true, Bool.true_and]
        cases leB hi lo <;> cases hi.toList.isEmpty <;> simp
      · have e1 : ¬ (24 : Int) < lo.size := by omega
        have e2 : (24 : Int) < hi.size := by omega
        simp [h1, h2, e1, e2]
    · have e1 : (24 : Int) < lo.size := by omega
      simp [h1, e1]
  rcases key _ rfl with ⟨h1, h2⟩ | ⟨h1, h3, h2⟩ | ⟨h1, h3, h4, h2⟩ | ⟨h1, h3, h4, h5, h2⟩ | ⟨h1, h3, h4, h5, h2⟩
  all_goals
    rw [h2]
    try unfold leB at h5
    try have h6 : ¬ (Op.bytesLess hi.toList lo.toList = true ∨ hi.toList = lo.toList) := by simpa using h5
    try have h6 : Op.bytesLess hi.toList lo.toList = true ∨ hi.toList = lo.toList := by simpa using h5
    clear key h2
    go_enter Try.func19, Try.ntmps19
    go_upto_region 1 with fail
    generalize w.alloc (.cells #[.string lo, .string hi] 24) = wb at *
    generalize w.heap.size = xb at *
    go_wp2_with fail
    go_ret
    exact ⟨rfl, HU.out⟩
end Go.Proofs.Ytkkickalleelkaa
