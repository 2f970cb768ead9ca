/- What Next of dice comes to: the plain function nextM, for bytes of at most 1000000. -/
import Derived.Test.YtilojboanilpbaaC
namespace Go.Proofs.Ytilojboanilpbaa
open Go.RowKit Go.Acre

/-- THE PLAIN FUNCTION: what is chosen among n, and what is left. -/
def nextM (bs : List Int) (n : Int) : Int × List Int :=
  if n ≤ 1 then (0, bs)
  else if n ≤ 256 then (match bs with | [] => (0, []) | b :: r => (b % n, r))
  else (match bs with | b :: c :: r => ((b * 256 + c) % (if n ≤ 65536 then n else 65536), r) | _ => (0, []))

def szOf (n : Int) : Int := if n > 256 then 2 else if n > 1 then 1 else 0

theorem size_any (n : Int) (w : World) :
    Calls Try.prog 18 #[.int .i64 n] w fun e w' => e = .returned (.int .i64 (szOf n)) ∧ w = w' := by
  by_cases h : 256 < n
  · have h1 : 1 < n := by omega
    have e : szOf n = 2 := by unfold szOf; rw [if_pos h]
    rw [e]
    go_enter Try.func18, Try.ntmps18
    go_wp2
    go_ret
    exact ⟨rfl, rfl⟩
  · by_cases h1 : 1 < n
    · have e : szOf n = 1 := by unfold szOf; rw [if_neg h, if_pos h1]
      rw [e]
      go_enter Try.func18, Try.ntmps18
      go_wp2
      go_ret
      exact ⟨rfl, rfl⟩
    · have e : szOf n = 0 := by unfold szOf; rw [if_neg h, if_neg h1]
      rw [e]
      go_enter Try.func18, Try.ntmps18
      go_wp2
      go_ret
      exact ⟨rfl, rfl⟩

theorem box_set {T B : Nat} {w : World} {a : Option Addr} {n c : Nat} {v' : Value} {bs' : List Int} (hb : w.heap[B]? = some (.cells #[.slice a n c] T (0, 0))) (hv' : IntsAt .u8 w v' bs') :
    BoxAt T B (w.setCell ⟨B, 0, none⟩ v') bs' ∧ Upd (fun i => i = B) w (w.setCell ⟨B, 0, none⟩ v') := by
  have hu : Upd (fun i => i = B) w (w.setCell ⟨B, 0, none⟩ v') := (Upd.refl (fun i => i = B) w).setCell (p := ⟨B, 0, none⟩) (fun _ => rfl) _
  refine ⟨⟨v', ?_, hv'.upd hu ?_⟩, hu⟩
  · simpa using heap_setCell hb v' (o := 0)
  · rintro g o z hc rfl
    rw [cell_of_heap hb] at hc
    cases o with
    | zero => simp at hc
    | succ o => simp at hc

theorem box_set_d {T B : Nat} {w : World} {a : Option Addr} {n c : Nat} {v' : Value} {bs' : List Int} (hb : w.heap[B]? = some (.cells #[.slice a n c] T (0, 0))) (hv' : IntsAt .u8 w v' bs') :
    BoxAt T B (w.setCell ⟨B, 0, none⟩ v').drew bs' ∧ Upd (fun i => i = B) w (w.setCell ⟨B, 0, none⟩ v').drew :=
  ⟨(box_set hb hv').1, (box_set hb hv').2.drew⟩

def NextPost (T B : Nat) (r : Int × List Int) (w : World) (e : Ending) (w' : World) : Prop :=
  e = .returned (.int .i64 r.1) ∧ BoxAt T B w' r.2 ∧ Upd (fun i => i = B) w w'

theorem next_nil (n : Int) (w : World) :
    Calls Try.prog 10 #[.pointer none, .int .i64 n] w fun e w' => e = .returned (.int .i64 0) ∧ w = w' := by
  go_enter Try.func10, Try.ntmps10
  go_wp2_with fail
  go_step3
  go_wp2_with (go_at_call 18; refine (size_any _ _).mono ?_; rintro e w' ⟨rfl, rfl⟩)
  rw [Exit.noGoto_ret]
  go_ret
  exact ⟨rfl, rfl⟩

theorem next_zero (n : Int) (w : World) (B : Nat) (hn : ¬ 1 < n) :
    Calls Try.prog 10 #[.pointer (some ⟨B, 0, none⟩), .int .i64 n] w fun e w' => e = .returned (.int .i64 0) ∧ w = w' := by
  have e0 : szOf n = 0 := by unfold szOf; rw [if_neg (by omega), if_neg hn]
  have hs := size_any n
  rw [e0] at hs
  clear e0
  go_enter Try.func10, Try.ntmps10
  go_wp2_with fail
  go_step3
  go_wp2_with (go_at_call 18; refine (hs _).mono ?_; rintro e w' ⟨rfl, rfl⟩)
  rw [Exit.noGoto_ret]
  go_ret
  exact ⟨rfl, rfl⟩

theorem next_short (n : Int) (w : World) (B k : Nat) (hs : ∀ w : World, Calls Try.prog 18 #[.int .i64 n] w fun e w' => e = .returned (.int .i64 k) ∧ w = w') (a : Option Addr) (len cap : Nat)
    (hk : len < k) (hk2 : k ≤ 2) (hb : w.heap[B]? = some (.cells #[.slice a len cap] 37 (0, 0))) :
    Calls Try.prog 10 #[.pointer (some ⟨B, 0, none⟩), .int .i64 n] w (NextPost 37 B (0, []) w) := by
  have hc := cell_of_heap hb 0
  have hf := frozen_of_heap hb 0 none
  simp only [List.getElem?_toArray, List.getElem?_cons_zero] at hc
  have hz : ((k : Int) == 0) = false := by simp; omega
  have hlt : ((len : Int) < k) := by omega
  have HB := Lib.hid hb
  clear hb
  go_enter Try.func10, Try.ntmps10
  go_wp2_with fail
  go_step3
  go_wp2_with (go_at_call 18; refine (hs _).mono ?_; rintro e w' ⟨rfl, rfl⟩)
  rw [Exit.noGoto_ret]
  go_ret
  exact ⟨rfl, box_set HB.out (IntsAt.nil _ _)⟩


/-- where the slice of what is left lies, is no matter here -/
theorem left_ints {w : World} {g o k len cap : Nat} {bs : List Int} {a : Option Addr} (hlen : len = bs.length) (hl : len ≤ cap) (hcap : cap ≤ maxLen) (hk : k ≤ len)
    (hcells : ∀ i, i < bs.length → w.cell? ⟨g, o + i, none⟩ = some (.int .u8 (bs.getD i 0))) (c : Nat) (hc : len - k ≤ c) (hc2 : c ≤ cap) (ha : a ≠ none) (ha2 : k < len → a = some ⟨g, o + k, none⟩) :
    IntsAt .u8 w (.slice a (len - k) c) (bs.drop k) := by
  subst hlen
  by_cases hk2 : k < bs.length
  · rw [ha2 hk2]
    refine IntsAt.mk (by simp) (by simpa using hc) (by omega) (fun i hi => ?_)
    simp only [List.length_drop] at hi
    rw [Nat.add_assoc, hcells (k + i) (by omega)]
    simp [List.getD]
  · have e : bs.drop k = [] := List.drop_eq_nil_of_le (by omega)
    have e2 : bs.length - k = 0 := by omega
    rw [e, e2]
    exact IntsAt.mk0 (by omega) (fun h => (ha h).elim)

theorem ints_tail {w : World} {g o len cap : Nat} {b : Int} {r : List Int} (h : IntsAt .u8 w (.slice (some ⟨g, o, none⟩) len cap) (b :: r)) (a : Option Addr) (c : Nat) (ha : a ≠ none)
    (ha2 : 1 < len → a = some ⟨g, o + 1, none⟩) (hc : len - 1 ≤ c) (hc2 : c ≤ cap) : IntsAt .u8 w (.slice a (len - 1) c) r := by
  have hcap : cap ≤ maxLen := by
    obtain ⟨_, a', c', hv, _, h2, _⟩ := h
    simp only [Value.slice.injEq] at hv
    rw [hv.2.2]; exact h2
  obtain ⟨h1, h2, h3⟩ := RowAt.cells h
  have hl : len = (b :: r).length := h1
  rw [← hl] at h2
  refine left_ints (k := 1) (bs := b :: r) hl h2 hcap (by rw [hl]; simp) ?_ c hc hc2 ha ha2
  intro i hi
  rw [h3 i (by simpa using hi)]
  simp only [List.getElem?_map, List.getD]
  rw [List.getElem?_eq_getElem hi]
  rfl
theorem box_two {T B : Nat} {w w1 : World} {a : Option Addr} {n c : Nat} {v' : Value} {bs' : List Int} (hu : Upd (fun i => i = B) w w1) (hb : w1.heap[B]? = some (.cells #[.slice a n c] T (0, 0))) (hv' : IntsAt .u8 w1 v' bs') :
    BoxAt T B (w1.setCell ⟨B, 0, none⟩ v').drew bs' ∧ Upd (fun i => i = B) w (w1.setCell ⟨B, 0, none⟩ v').drew :=
  ⟨(box_set hb hv').1, (hu.trans (box_set hb hv').2 (fun _ _ h => h)).drew⟩

set_option maxRecDepth 100000 in
theorem next_one (n : Int) (w : World) (B : Nat) (hn : 1 < n) (hn2 : n ≤ 256) (g o len cap : Nat) (b0 : Int) (r : List Int) (hb0 : 0 ≤ b0) (hb2 : b0 < 256)
    (hlen : len = (b0 :: r).length) (hl2 : len ≤ cap) (hcap : cap ≤ maxLen) (hl3 : len ≤ 1000000)
    (hb : w.heap[B]? = some (.cells #[.slice (some ⟨g, o, none⟩) len cap] 37 (0, 0)))
    (hcells : ∀ i, i < (b0 :: r).length → w.cell? ⟨g, o + i, none⟩ = some (.int .u8 ((b0 :: r).getD i 0))) :
    Calls Try.prog 10 #[.pointer (some ⟨B, 0, none⟩), .int .i64 n] w (NextPost 37 B (nextM (b0 :: r) n) w) := by
  have HN := Lib.hid (show nextM (b0 :: r) n = (b0 % n, r) by unfold nextM; rw [if_neg (by omega), if_pos hn2])
  have e0 : szOf n = 1 := by unfold szOf; rw [if_neg (by omega), if_pos hn]
  have hs := size_any n
  rw [e0] at hs
  clear e0
  have hc := cell_of_heap hb 0
  have hf := frozen_of_heap hb 0 none
  have h0 : w.cell? ⟨g, o, none⟩ = some (.int .u8 b0) := by simpa using hcells 0 (by simp)
  have h1 : 1 ≤ len := by rw [hlen]; simp
  simp only [List.getElem?_toArray, List.getElem?_cons_zero] at hc
  have HB := Lib.hid hb
  have HC := Lib.hid hcells
  have HL := Lib.hid hlen
  have HM := Lib.hid hcap
  clear hb hcells hlen hcap
  go_enter Try.func10, Try.ntmps10
  go_wp2_with fail
  refine wp_scope_once 0 rfl ?_
  go_wp2_with (first | (go_at_call 18; refine (hs _).mono ?_; rintro e w' ⟨rfl, rfl⟩) | go_step3)
  go_still_tail 18, (by kernel_rfl)
  go_wp2
  all_goals (rw [Exit.jump_ret]; go_ret)
  · rename_i h
    subst h
    rw [HN.out]
    exact ⟨rfl, box_set_d HB.out (left_ints (a := some ⟨g, o, none⟩) (k := 1) HL.out hl2 HM.out (Nat.le_refl _) HC.out 0 (by omega) (by omega) (by simp) (by omega))⟩
  · rw [HN.out]
    exact ⟨rfl, box_set_d HB.out (left_ints (a := some ⟨g, o + 1, none⟩) (k := 1) HL.out hl2 HM.out h1 HC.out _ (Nat.le_refl _) (by omega) (by simp) (fun _ => rfl))⟩

set_option maxRecDepth 100000 in
theorem next_two (n : Int) (w : World) (B : Nat) (hn : 256 < n) (g o len cap : Nat) (b0 b1 : Int) (r : List Int) (hb0 : 0 ≤ b0) (hb2 : b0 < 256) (hb3 : 0 ≤ b1) (hb4 : b1 < 256)
    (hlen : len = (b0 :: b1 :: r).length) (hl2 : len ≤ cap) (hcap : cap ≤ maxLen) (hl3 : len ≤ 1000000)
    (hb : w.heap[B]? = some (.cells #[.slice (some ⟨g, o, none⟩) len cap] 37 (0, 0)))
    (hcells : ∀ i, i < (b0 :: b1 :: r).length → w.cell? ⟨g, o + i, none⟩ = some (.int .u8 ((b0 :: b1 :: r).getD i 0))) :
    Calls Try.prog 10 #[.pointer (some ⟨B, 0, none⟩), .int .i64 n] w (NextPost 37 B (nextM (b0 :: b1 :: r) n) w) := by
  have HN := Lib.hid (show nextM (b0 :: b1 :: r) n = ((b0 * 256 + b1) % (if n ≤ 65536 then n else 65536), r) by unfold nextM; rw [if_neg (by omega), if_neg (by omega)])
  have e0 : szOf n = 2 := by unfold szOf; rw [if_pos hn]
  have hs := size_any n
  rw [e0] at hs
  clear e0
  have hc := cell_of_heap hb 0
  have hf := frozen_of_heap hb 0 none
  have h0 : w.cell? ⟨g, o, none⟩ = some (.int .u8 b0) := by simpa using hcells 0 (by simp)
  have h01 : w.cell? ⟨g, o + 1, none⟩ = some (.int .u8 b1) := by simpa using hcells 1 (by simp)
  have h1 : 2 ≤ len := by rw [hlen]; simp
  have h2 : 1 ≤ len := by omega
  have h3 : 1 ≤ len - 1 := by omega
  have h4 : ¬ len = 1 := by omega
  have h5 : (1 : Int) ≤ (len : Int) := by omega
  have h6 : (1 : Int) ≤ ((len - 1 : Nat) : Int) := by omega
  simp only [List.getElem?_toArray, List.getElem?_cons_zero] at hc
  have HB := Lib.hid hb
  have HC := Lib.hid hcells
  have HL := Lib.hid hlen
  have HM := Lib.hid hcap
  clear hb hcells hlen hcap
  go_enter Try.func10, Try.ntmps10
  go_wp2_with fail
  refine wp_scope_once 0 rfl ?_
  go_wp2_with (first | (go_at_call 18; refine (hs _).mono ?_; rintro e w' ⟨rfl, rfl⟩) | go_step3)
  go_still_tail 18, (by kernel_rfl)
  go_wp2_with go_step3
  rw [Exit.jump_goto]
  go_wp2_with fail
  have HB1 := Lib.hid (show (w.setCell ⟨B, 0, none⟩ (.slice (some ⟨g, o + 1, none⟩) (len - 1) (len - 1))).drew.heap[B]? = some (.cells #[.slice (some ⟨g, o + 1, none⟩) (len - 1) (len - 1)] 37 (0, 0)) from heap_setCell HB.out _)
  have HU1 := Lib.hid (show Upd (fun i => i = B) w (w.setCell ⟨B, 0, none⟩ (.slice (some ⟨g, o + 1, none⟩) (len - 1) (len - 1))).drew from ((Upd.refl (fun i => i = B) w).setCell (p := ⟨B, 0, none⟩) (fun _ => rfl) _).drew)
  have HC1 := Lib.hid (show IntsAt .u8 (w.setCell ⟨B, 0, none⟩ (.slice (some ⟨g, o + 1, none⟩) (len - 1) (len - 1))).drew (.slice (some ⟨g, o + 1, none⟩) (len - 1) (len - 1)) (b1 :: r) from by
    obtain ⟨v, hv1, hv2⟩ := (box_set_d HB.out (left_ints (a := some ⟨g, o + 1, none⟩) (k := 1) HL.out hl2 HM.out h2 HC.out _ (Nat.le_refl _) (by omega) (by simp) (fun _ => rfl))).1
    rw [HB1.out] at hv1
    simp only [Option.some.injEq, Obj.cells.injEq] at hv1
    have e := (congrArg (fun a => a[0]?) hv1.1)
    simp at e
    subst e
    exact hv2)
  generalize hW : (w.setCell ⟨B, 0, none⟩ (.slice (some ⟨g, o + 1, none⟩) (len - 1) (len - 1))).drew = w1 at *
  clear hW
  have hd1 := cell_of_heap HB1.out 0
  have hf1 := frozen_of_heap HB1.out 0 none
  simp only [List.getElem?_toArray, List.getElem?_cons_zero] at hd1
  clear hc hf h0 h01
  generalize hL : len - 1 = len1 at *
  clear hL
  go_still_tail 18, (by kernel_rfl)
  go_wp2_with go_step3
  · have h' : len1 = 1 := by assumption
    subst h'
    go_ret
    rw [HN.out, if_neg (by omega)]
    exact ⟨rfl, box_two HU1.out HB1.out (ints_tail HC1.out (some ⟨g, o + 1, none⟩) 0 (by simp) (by omega) (by omega) (by omega))⟩
  · go_ret
    rw [HN.out, if_neg (by omega)]
    exact ⟨rfl, box_two HU1.out HB1.out (ints_tail HC1.out (some ⟨g, o + 1 + 1, none⟩) _ (by simp) (fun _ => rfl) (Nat.le_refl _) (by omega))⟩
  · have h' : len1 = 1 := by assumption
    subst h'
    go_ret
    rw [HN.out, if_pos (by omega)]
    exact ⟨rfl, box_two HU1.out HB1.out (ints_tail HC1.out (some ⟨g, o + 1, none⟩) 0 (by simp) (by omega) (by omega) (by omega))⟩
  · go_ret
    rw [HN.out, if_pos (by omega)]
    exact ⟨rfl, box_two HU1.out HB1.out (ints_tail HC1.out (some ⟨g, o + 1 + 1, none⟩) _ (by simp) (fun _ => rfl) (Nat.le_refl _) (by omega))⟩
end Go.Proofs.Ytilojboanilpbaa
