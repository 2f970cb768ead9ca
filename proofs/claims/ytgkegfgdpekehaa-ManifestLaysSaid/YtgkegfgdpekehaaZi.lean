/- The walk of ManifestLays. -/
import Derived.Test.YtgkegfgdpekehaaZg
import Derived.Test.YtgkegfgdpekehaaZl
import Derived.Test.YtgkegfgdpekehaaZw
namespace Go.Proofs.Ytgkegfgdpekehaa
open Go.RowKit Go.Acre Go.Acre.Dk
/-- two states handed out, laid into two boxes: in whatever order -/
structure LV (w0 : World) (nx lg : Nat) (sl : Value) (ls : List (List PF)) (L : Nat → Bool) (vs : Nat → Value) (w : World) : Prop where
  upd : Upd (fun _ => False) w0 w
  l0 : L 0 = true → vs 0 = .agg #[.int .u64 (nx : Nat), .int .u64 (lg : Nat), sl]
  l2 : L 2 = true → vs 2 = .agg #[.int .u64 (nx : Nat), .int .u64 (lg : Nat), sl]
  l1 : L 1 = true → ∃ a c, vs 1 = .agg #[.int .u64 (nx : Nat), .int .u64 (lg : Nat), .slice a ls.length c] ∧ OutAt w w0.heap.size (.slice a ls.length c) ls
  l3 : L 3 = true → ∃ a c, vs 3 = .agg #[.int .u64 (nx : Nat), .int .u64 (lg : Nat), .slice a ls.length c] ∧ OutAt w w0.heap.size (.slice a ls.length c) ls
  l4 : L 4 = true → ∃ b c0 c1 c2, vs 4 = .pointer (some ⟨b, 0, none⟩) ∧ w0.heap.size ≤ b ∧ w.heap[b]? = some (.cells #[c0, c1, c2] 45 (0, 0)) ∧ (L 6 = true → vs 1 = .agg #[c0, c1, c2])
  l5 : L 5 = true → ∃ b c0 c1 c2, vs 5 = .pointer (some ⟨b, 0, none⟩) ∧ w0.heap.size ≤ b ∧ w.heap[b]? = some (.cells #[c0, c1, c2] 45 (0, 0)) ∧ (L 7 = true → vs 3 = .agg #[c0, c1, c2])
  ne : L 4 = true → L 5 = true → vs 4 ≠ vs 5
  l6 : L 6 = true → L 4 = true ∧ L 1 = true ∧ L 3 = true ∧ L 5 = true
  l7 : L 7 = true → L 6 = true
section
variable {w0 w w' : World} {nx lg : Nat} {sl : Value} {ls : List (List PF)} {L : Nat → Bool} {vs : Nat → Value}
theorem LV.keep (h : LV w0 nx lg sl ls L vs w) (hu : Upd (fun _ => False) w w') : LV w0 nx lg sl ls L vs w' where
  upd := h.upd.trans hu (fun _ _ f => f)
  l0 := h.l0
  l2 := h.l2
  l1 := fun e => by obtain ⟨a, c, h1, h2⟩ := h.l1 e; exact ⟨a, c, h1, h2.upd hu (fun _ f => f.elim)⟩
  l3 := fun e => by obtain ⟨a, c, h1, h2⟩ := h.l3 e; exact ⟨a, c, h1, h2.upd hu (fun _ f => f.elim)⟩
  l4 := fun e => by obtain ⟨b, c0, c1, c2, h1, h2, h3, h4⟩ := h.l4 e; exact ⟨b, c0, c1, c2, h1, h2, hu.keep h3 (fun f => f), h4⟩
  l5 := fun e => by obtain ⟨b, c0, c1, c2, h1, h2, h3, h4⟩ := h.l5 e; exact ⟨b, c0, c1, c2, h1, h2, hu.keep h3 (fun f => f), h4⟩
  ne := h.ne
  l6 := h.l6
  l7 := h.l7
theorem LV.no6 (h : LV w0 nx lg sl ls L vs w) {j : Nat} (hj : j = 4 ∨ j = 1 ∨ j = 3 ∨ j = 5) (hL : L j = false) : L 6 = false := by
  cases h6 : L 6 with
  | false => rfl
  | true =>
    obtain ⟨a, b, c, d⟩ := h.l6 h6
    rcases hj with rfl | rfl | rfl | rfl <;> simp_all
theorem LV.no7 (h : LV w0 nx lg sl ls L vs w) (h6 : L 6 = false) : L 7 = false := by
  cases h7 : L 7 with
  | false => rfl
  | true => have := h.l7 h7; rw [h6] at this; cases this
theorem LV.s0 (h : LV w0 nx lg sl ls L vs w) : LV w0 nx lg sl ls (setF L 0 true) (setF vs 0 (.agg #[.int .u64 (nx : Nat), .int .u64 (lg : Nat), sl])) w :=
  ⟨h.upd, fun _ => rfl, h.l2, h.l1, h.l3, h.l4, h.l5, h.ne, h.l6, h.l7⟩
theorem LV.s2 (h : LV w0 nx lg sl ls L vs w) : LV w0 nx lg sl ls (setF L 2 true) (setF vs 2 (.agg #[.int .u64 (nx : Nat), .int .u64 (lg : Nat), sl])) w :=
  ⟨h.upd, h.l0, fun _ => rfl, h.l1, h.l3, h.l4, h.l5, h.ne, h.l6, h.l7⟩
theorem LV.s1 (h : LV w0 nx lg sl ls L vs w) (hL : L 1 = false) {a : Option Addr} {c : Nat} (ho : OutAt w w0.heap.size (.slice a ls.length c) ls) :
    LV w0 nx lg sl ls (setF L 1 true) (setF vs 1 (.agg #[.int .u64 (nx : Nat), .int .u64 (lg : Nat), .slice a ls.length c])) w :=
  have h6 : L 6 = false := h.no6 (.inr (.inl rfl)) hL
  ⟨h.upd, h.l0, h.l2, fun _ => ⟨a, c, rfl, ho⟩, h.l3, fun e => by
    obtain ⟨b, c0, c1, c2, h1, h2, h3, h4⟩ := h.l4 e
    exact ⟨b, c0, c1, c2, h1, h2, h3, fun e2 => by rw [show setF L 1 true 6 = L 6 from rfl, h6] at e2; cases e2⟩, h.l5, h.ne, (fun e => by rw [show setF L 1 true 6 = L 6 from rfl, h6] at e; cases e), h.l7⟩
theorem LV.s3 (h : LV w0 nx lg sl ls L vs w) (hL : L 3 = false) {a : Option Addr} {c : Nat} (ho : OutAt w w0.heap.size (.slice a ls.length c) ls) :
    LV w0 nx lg sl ls (setF L 3 true) (setF vs 3 (.agg #[.int .u64 (nx : Nat), .int .u64 (lg : Nat), .slice a ls.length c])) w :=
  have h6 : L 6 = false := h.no6 (.inr (.inr (.inl rfl))) hL
  have h7 : L 7 = false := h.no7 h6
  ⟨h.upd, h.l0, h.l2, h.l1, fun _ => ⟨a, c, rfl, ho⟩, h.l4, fun e => by
    obtain ⟨b, c0, c1, c2, h1, h2, h3, h4⟩ := h.l5 e
    exact ⟨b, c0, c1, c2, h1, h2, h3, fun e2 => by rw [show setF L 3 true 7 = L 7 from rfl, h7] at e2; cases e2⟩, h.ne, (fun e => by rw [show setF L 3 true 6 = L 6 from rfl, h6] at e; cases e), h.l7⟩
theorem LV.s4 (h : LV w0 nx lg sl ls L vs w) (hL : L 4 = false) (c0 c1 c2 : Value) :
    LV w0 nx lg sl ls (setF L 4 true) (setF vs 4 (.pointer (some ⟨w.heap.size, 0, none⟩))) (w.alloc (.cells #[c0, c1, c2] 45)) := by
  have h6 : L 6 = false := h.no6 (.inl rfl) hL
  have hu : Upd (fun _ => False) w (w.alloc (.cells #[c0, c1, c2] 45)) := (Upd.refl _ w).alloc _
  have k := h.keep hu
  refine ⟨k.upd, k.l0, k.l2, k.l1, k.l3, fun _ => ⟨_, c0, c1, c2, rfl, h.upd.size, heap_alloc _, fun e2 => ?_⟩, k.l5, fun _ e5 e => ?_, fun e2 => ?_, k.l7⟩
  · rw [show setF L 4 true 6 = L 6 from rfl, h6] at e2; cases e2
  · obtain ⟨b, d0, d1, d2, h1, _, h3, _⟩ := h.l5 e5
    rw [show setF vs 4 (.pointer (some ⟨w.heap.size, 0, none⟩)) 5 = vs 5 from rfl, h1, show setF vs 4 (.pointer (some ⟨w.heap.size, 0, none⟩)) 4 = .pointer (some ⟨w.heap.size, 0, none⟩) from rfl] at e
    simp only [Value.pointer.injEq, Option.some.injEq, Addr.mk.injEq, and_true] at e
    have := lt_of_heap h3
    omega
  · rw [show setF L 4 true 6 = L 6 from rfl, h6] at e2; cases e2
theorem LV.s5 (h : LV w0 nx lg sl ls L vs w) (hL : L 5 = false) (c0 c1 c2 : Value) :
    LV w0 nx lg sl ls (setF L 5 true) (setF vs 5 (.pointer (some ⟨w.heap.size, 0, none⟩))) (w.alloc (.cells #[c0, c1, c2] 45)) := by
  have h6 : L 6 = false := h.no6 (.inr (.inr (.inr rfl))) hL
  have h7 : L 7 = false := h.no7 h6
  have hu : Upd (fun _ => False) w (w.alloc (.cells #[c0, c1, c2] 45)) := (Upd.refl _ w).alloc _
  have k := h.keep hu
  refine ⟨k.upd, k.l0, k.l2, k.l1, k.l3, k.l4, fun _ => ⟨_, c0, c1, c2, rfl, h.upd.size, heap_alloc _, fun e2 => ?_⟩, fun e4 _ e => ?_, fun e2 => ?_, k.l7⟩
  · rw [show setF L 5 true 7 = L 7 from rfl, h7] at e2; cases e2
  · obtain ⟨b, d0, d1, d2, h1, _, h3, _⟩ := h.l4 e4
    rw [show setF vs 5 (.pointer (some ⟨w.heap.size, 0, none⟩)) 4 = vs 4 from rfl, h1, show setF vs 5 (.pointer (some ⟨w.heap.size, 0, none⟩)) 5 = .pointer (some ⟨w.heap.size, 0, none⟩) from rfl] at e
    simp only [Value.pointer.injEq, Option.some.injEq, Addr.mk.injEq, and_true] at e
    have := lt_of_heap h3
    omega
  · rw [show setF L 5 true 6 = L 6 from rfl, h6] at e2; cases e2
theorem LV.s6 (h : LV w0 nx lg sl ls L vs w) (hL : L 6 = false) (e4 : L 4 = true) (e1 : L 1 = true) (e3 : L 3 = true) (e5 : L 5 = true) {b : Nat} {v0 v1 v2 x : Value} (hb : vs 4 = .pointer (some ⟨b, 0, none⟩)) (hv : vs 1 = .agg #[v0, v1, v2]) :
    LV w0 nx lg sl ls (setF L 6 true) (setF vs 6 x) (((w.setCell ⟨b, 0, none⟩ v0).setCell ⟨b, 1, none⟩ v1).setCell ⟨b, 2, none⟩ v2) := by
  obtain ⟨b', c0, c1, c2, h1, h2, h3, _⟩ := h.l4 e4
  rw [hb] at h1
  simp only [Value.pointer.injEq, Option.some.injEq, Addr.mk.injEq, and_true] at h1
  subst h1
  have hu : Upd (fun i => i = b) w (((w.setCell ⟨b, 0, none⟩ v0).setCell ⟨b, 1, none⟩ v1).setCell ⟨b, 2, none⟩ v2) := upd3
  have h7 := h.no7 hL
  refine ⟨h.upd.trans hu (fun i hi e => by omega), h.l0, h.l2, fun e => ?_, fun e => ?_, fun _ => ⟨b, v0, v1, v2, hb, h2, cells3 h3, fun _ => hv⟩, fun e => ?_, h.ne, fun _ => ⟨e4, e1, e3, e5⟩, fun _ => rfl⟩
  · obtain ⟨a, c, k1, k2⟩ := h.l1 e
    exact ⟨a, c, k1, k2.upd45 hu (fun k e => by subst e; exact ⟨_, h3⟩)⟩
  · obtain ⟨a, c, k1, k2⟩ := h.l3 e
    exact ⟨a, c, k1, k2.upd45 hu (fun k e => by subst e; exact ⟨_, h3⟩)⟩
  · obtain ⟨g, d0, d1, d2, k1, k2, k3, k4⟩ := h.l5 e
    have hne := h.ne e4 e
    rw [hb, k1] at hne
    exact ⟨g, d0, d1, d2, k1, k2, hu.keep k3 (fun e => hne (by rw [e])), k4⟩
theorem LV.s7 (h : LV w0 nx lg sl ls L vs w) (hL : L 7 = false) (e6 : L 6 = true) {b : Nat} {v0 v1 v2 x : Value} (hb : vs 5 = .pointer (some ⟨b, 0, none⟩)) (hv : vs 3 = .agg #[v0, v1, v2]) :
    LV w0 nx lg sl ls (setF L 7 true) (setF vs 7 x) (((w.setCell ⟨b, 0, none⟩ v0).setCell ⟨b, 1, none⟩ v1).setCell ⟨b, 2, none⟩ v2) := by
  obtain ⟨e4, e1, e3, e5⟩ := h.l6 e6
  obtain ⟨b', c0, c1, c2, h1, h2, h3, _⟩ := h.l5 e5
  rw [hb] at h1
  simp only [Value.pointer.injEq, Option.some.injEq, Addr.mk.injEq, and_true] at h1
  subst h1
  have hu : Upd (fun i => i = b) w (((w.setCell ⟨b, 0, none⟩ v0).setCell ⟨b, 1, none⟩ v1).setCell ⟨b, 2, none⟩ v2) := upd3
  refine ⟨h.upd.trans hu (fun i hi e => by omega), h.l0, h.l2, fun e => ?_, fun e => ?_, fun e => ?_, fun _ => ⟨b, v0, v1, v2, hb, h2, cells3 h3, fun _ => hv⟩, h.ne, h.l6, fun _ => e6⟩
  · obtain ⟨a, c, k1, k2⟩ := h.l1 e
    exact ⟨a, c, k1, k2.upd45 hu (fun k e => by subst e; exact ⟨_, h3⟩)⟩
  · obtain ⟨a, c, k1, k2⟩ := h.l3 e
    exact ⟨a, c, k1, k2.upd45 hu (fun k e => by subst e; exact ⟨_, h3⟩)⟩
  · obtain ⟨g, d0, d1, d2, k1, k2, k3, k4⟩ := h.l4 e
    have hne := h.ne e e5
    rw [hb, k1] at hne
    exact ⟨g, d0, d1, d2, k1, k2, hu.keep k3 (fun e => hne (by rw [e])), k4⟩
end
theorem short_ok {ls : List (List PF)} (h : ∀ l ∈ ls, ∀ f ∈ l, PFok f) {nx lg : Nat} : ∀ y ∈ flat (PS'.mk nx lg (shortL ls)).levels, y.2.id < 18446744073709551616 := by
  intro y hy
  obtain ⟨l, hl, hf⟩ := mem_flat_of hy
  unfold shortL at hl
  obtain ⟨l', hl', rfl⟩ := List.mem_map.1 hl
  exact h l' (List.mem_of_mem_take hl') _ (List.mem_of_mem_take hf)
theorem short_len (ls : List (List PF)) : ∀ l ∈ shortL ls, l.length ≤ 1000000 := by
  intro l hl
  unfold shortL at hl
  obtain ⟨l', _, rfl⟩ := List.mem_map.1 hl
  rw [List.length_take]
  omega
set_option maxHeartbeats 8000000 in
set_option maxRecDepth 100000 in
theorem lays_any {w : World} {nx lg : Nat} {a : Option Addr} {n ca : Nat} {ls : List (List PF)} (b : ByteArray) (hf : FilesIn w nx lg a n ca ls) (hb : b.size ≤ 140737488351232) :
    Calls Try.prog 11 #[.agg #[.int .u64 (nx : Nat), .int .u64 (lg : Nat), .slice a n ca], .string b] w (Fresh true w) := by
  have hx1 := heap_alloc (w := w) (.cells #[.int .u64 (nx : Nat), .int .u64 (lg : Nat), .slice a n ca] 45)
  have HU1 : Hid (Upd (fun _ => False) w (w.alloc (.cells #[.int .u64 (nx : Nat), .int .u64 (lg : Nat), .slice a n ca] 45))) := (Upd.refl _ w).alloc _
  have HSH : Hid (∀ w', Upd (fun _ => False) w w' → Calls Try.prog 30 #[.agg #[.int .u64 (nx : Nat), .int .u64 (lg : Nat), .slice a n ca]] w' (ShortOut nx lg ls w')) := fun w' hu => short_out hf.1 (hf.2.1.upd0 hu) hf.2.2.1
  have HF := Lib.hid hf
  have HB := Lib.hid hb
  have HX1 := Lib.hid hx1
  clear hf hb hx1
  go_enter Try.func11, Try.ntmps11
  go_upto_region 1 with fail
  generalize w.alloc (.cells #[.int .u64 (nx : Nat), .int .u64 (lg : Nat), .slice a n ca] 45) = wb at *
  generalize hxb : w.heap.size = xb at *
  refine wp_region_fill (by kernel_rfl) (early_of (by kernel_rfl)) (single_of (by kernel_rfl)) (LV wb nx lg (.slice a n ca) (shortL ls)) ?h0 ?hstep ?hend
  case h0 => exact ⟨(Upd.refl _ _).drew, fun h => (by cases h), fun h => (by cases h), fun h => (by cases h), fun h => (by cases h), fun h => (by cases h), fun h => (by cases h), fun h => (by cases h), fun h => (by cases h), fun h => by cases h⟩
  case hstep =>
    intro i hi
    have hi8 : i < 8 := hi
    clear hi
    rcases (show i = 0 ∨ i = 1 ∨ i = 2 ∨ i = 3 ∨ i = 4 ∨ i = 5 ∨ i = 6 ∨ i = 7 by omega) with rfl | rfl | rfl | rfl | rfl | rfl | rfl | rfl
    · refine owes_of rfl (single_of (by kernel_rfl)) ?_
      intro L vs wx hV hL hdep fr hfr hfo K hK
      have e2 : fr.tmps[2]? = some (.pointer (some ⟨xb, 0, none⟩)) := hfo 2 (by kernel_rfl)
      obtain ⟨p0, p1, p2⟩ := box_cells (hV.upd.keep HX1.out (fun f => f))
      clear hfr hfo
      go_simp
      exact hK _ _ hV.s0
    · refine owes_of rfl (single_of (by kernel_rfl)) ?_
      intro L vs wx hV hL hdep fr hfr hfo K hK
      have d0 : L 0 = true := hdep ⟨0, .data⟩ (by simp) rfl
      have e13 : fr.tmps[13]? = some (.agg #[.int .u64 (nx : Nat), .int .u64 (lg : Nat), .slice a n ca]) := (hfr 0 _ 13 rfl rfl d0 (by show _ < 74; omega)).trans (by rw [hV.l0 d0])
      clear hfr hfo
      go_simp
      go_at_call 30
      refine (HSH.out _ (HU1.out.trans hV.upd (fun _ _ f => f))).mono ?_
      rintro e w5 ⟨va, vc, rfl, o5, u5⟩
      exact hK _ _ ((hV.keep u5).s1 hL (o5.base hV.upd.size))
    · refine owes_of rfl (single_of (by kernel_rfl)) ?_
      intro L vs wx hV hL hdep fr hfr hfo K hK
      have e2 : fr.tmps[2]? = some (.pointer (some ⟨xb, 0, none⟩)) := hfo 2 (by kernel_rfl)
      obtain ⟨p0, p1, p2⟩ := box_cells (hV.upd.keep HX1.out (fun f => f))
      clear hfr hfo
      go_simp
      exact hK _ _ hV.s2
    · refine owes_of rfl (single_of (by kernel_rfl)) ?_
      intro L vs wx hV hL hdep fr hfr hfo K hK
      have d0 : L 2 = true := hdep ⟨2, .data⟩ (by simp) rfl
      have e13 : fr.tmps[15]? = some (.agg #[.int .u64 (nx : Nat), .int .u64 (lg : Nat), .slice a n ca]) := (hfr 2 _ 15 rfl rfl d0 (by show _ < 74; omega)).trans (by rw [hV.l2 d0])
      clear hfr hfo
      go_simp
      go_at_call 30
      refine (HSH.out _ (HU1.out.trans hV.upd (fun _ _ f => f))).mono ?_
      rintro e w5 ⟨va, vc, rfl, o5, u5⟩
      exact hK _ _ ((hV.keep u5).s3 hL (o5.base hV.upd.size))
    · refine owes_of rfl (single_of (by kernel_rfl)) ?_
      intro L vs wx hV hL hdep fr hfr hfo K hK
      clear hfr hfo
      go_simp
      exact hK _ _ (hV.s4 hL _ _ _)
    · refine owes_of rfl (single_of (by kernel_rfl)) ?_
      intro L vs wx hV hL hdep fr hfr hfo K hK
      clear hfr hfo
      go_simp
      exact hK _ _ (hV.s5 hL _ _ _)
    · refine owes_of rfl (single_of (by kernel_rfl)) ?_
      intro L vs wx hV hL hdep fr hfr hfo K hK
      have d4 : L 4 = true := hdep ⟨4, .data⟩ (by simp) rfl
      have d1 : L 1 = true := hdep ⟨1, .data⟩ (by simp) rfl
      have d3 : L 3 = true := hdep ⟨3, .chain⟩ (by simp) rfl
      have d5 : L 5 = true := hdep ⟨5, .phase⟩ (by simp) rfl
      obtain ⟨b4, c0, c1, c2, k1, _, k3, _⟩ := hV.l4 d4
      obtain ⟨va, vc, k5, _⟩ := hV.l1 d1
      have e5 : fr.tmps[5]? = some (.pointer (some ⟨b4, 0, none⟩)) := (hfr 4 _ 5 rfl rfl d4 (by show _ < 74; omega)).trans (by rw [k1])
      have e14 : fr.tmps[14]? = some (.agg #[.int .u64 (nx : Nat), .int .u64 (lg : Nat), .slice va (shortL ls).length vc]) := (hfr 1 _ 14 rfl rfl d1 (by show _ < 74; omega)).trans (by rw [k5])
      obtain ⟨p0, p1, p2⟩ := box_cells k3
      have z0 := frozen_of_heap k3 0 none
      have z1 := frozen_of_heap k3 1 none
      have z2 := frozen_of_heap k3 2 none
      have HV2 := Lib.hid (hV.s6 (x := undef) hL d4 d1 d3 d5 k1 k5)
      clear hfr hfo k3 k1 k5
      go_simp
      exact hK _ _ HV2.out
    · refine owes_of rfl (single_of (by kernel_rfl)) ?_
      intro L vs wx hV hL hdep fr hfr hfo K hK
      have d5 : L 5 = true := hdep ⟨5, .data⟩ (by simp) rfl
      have d3 : L 3 = true := hdep ⟨3, .data⟩ (by simp) rfl
      have d6 : L 6 = true := hdep ⟨6, .chain⟩ (by simp) rfl
      obtain ⟨b4, c0, c1, c2, k1, _, k3, _⟩ := hV.l5 d5
      obtain ⟨va, vc, k5, _⟩ := hV.l3 d3
      have e5 : fr.tmps[6]? = some (.pointer (some ⟨b4, 0, none⟩)) := (hfr 5 _ 6 rfl rfl d5 (by show _ < 74; omega)).trans (by rw [k1])
      have e14 : fr.tmps[16]? = some (.agg #[.int .u64 (nx : Nat), .int .u64 (lg : Nat), .slice va (shortL ls).length vc]) := (hfr 3 _ 16 rfl rfl d3 (by show _ < 74; omega)).trans (by rw [k5])
      obtain ⟨p0, p1, p2⟩ := box_cells k3
      have z0 := frozen_of_heap k3 0 none
      have z1 := frozen_of_heap k3 1 none
      have z2 := frozen_of_heap k3 2 none
      have HV2 := Lib.hid (hV.s7 (x := undef) hL d6 k1 k5)
      clear hfr hfo k3 k1 k5
      go_simp
      exact hK _ _ HV2.out
  case hend =>
    intro L vs wc hall hV
    obtain ⟨va, vc, k1, o1⟩ := hV.l1 (hall 1 (by show 1 < 8; omega))
    obtain ⟨vb, vd, k3, o3⟩ := hV.l3 (hall 3 (by show 3 < 8; omega))
    obtain ⟨b5, x0, x1, x2, k4, m5, hb5, g5⟩ := hV.l4 (hall 4 (by show 4 < 8; omega))
    obtain ⟨b6, y0, y1, y2, k5, m6, hb6, g6⟩ := hV.l5 (hall 5 (by show 5 < 8; omega))
    replace g5 := g5 (hall 6 (by show 6 < 8; omega))
    replace g6 := g6 (hall 7 (by show 7 < 8; omega))
    rw [k1] at g5
    rw [k3] at g6
    simp only [Value.agg.injEq] at g5 g6
    rw [← g5] at hb5
    rw [← g6] at hb6
    have hu := HU1.out.trans hV.upd (fun _ _ f => f)
    have q0 := hV.l0 (hall 0 (by show 0 < 8; omega))
    have q2 := hV.l2 (hall 2 (by show 2 < 8; omega))
    clear hall hV g5 g6 m5 m6
    simp only [putAll, k1, k3, k4, k5, q0, q2]
    simp only [Act.put, List.setIfInBounds_toArray, List.set_cons_zero, List.set_cons_succ]
    have HOK := Lib.hid (short_ok (nx := nx) (lg := lg) HF.out.2.2.2.1)
    have HLN := Lib.hid (short_len ls)
    have HU2 := Lib.hid hu
    have HB5 := Lib.hid hb5
    have HB6 := Lib.hid hb6
    have hl1 := o1.levs
    have hl3 := o3.levs
    clear k1 k3 k4 k5 q0 q2 o1 o3 hu hb5 hb6 L vs HSH HX1 HU1
    generalize shortL ls = LS at *
    have HE1 : Hid (∀ w', Upd (fun _ => False) wc w' → Calls Try.prog 31 #[.agg #[.int .u64 (nx : Nat), .int .u64 (lg : Nat), .slice va LS.length vc]] w' (EncPost ⟨nx, lg, LS⟩ w')) := fun w' hu => encode_any (s := ⟨nx, lg, LS⟩) rfl (hl1.upd0 hu) HOK.out
    have HE2 : Hid (∀ w', Upd (fun _ => False) wc w' → Calls Try.prog 32 #[.agg #[.int .u64 (nx : Nat), .int .u64 (lg : Nat), .slice vb LS.length vd]] w' (EncPost ⟨nx, lg, LS⟩ w')) := fun w' hu => rencode_any (s := ⟨nx, lg, LS⟩) rfl (hl3.upd0 hu) HLN.out
    have HC1 : Hid (∀ w', Upd (fun _ => False) wc w' → Calls Try.prog 33 #[.agg #[.int .u64 (nx : Nat), .int .u64 (lg : Nat), .slice va LS.length vc]] w' (CheckPost ⟨nx, lg, LS⟩ w')) := fun w' hu => check_any (s := ⟨nx, lg, LS⟩) rfl (hl1.upd0 hu) HOK.out
    have HC2 : Hid (∀ w', Upd (fun _ => False) wc w' → Calls Try.prog 34 #[.agg #[.int .u64 (nx : Nat), .int .u64 (lg : Nat), .slice vb LS.length vd]] w' (CheckPost ⟨nx, lg, LS⟩ w')) := fun w' hu => rcheck_any (s := ⟨nx, lg, LS⟩) rfl (hl3.upd0 hu) HLN.out
    have HS1 : Hid (∀ w', Upd (fun _ => False) wc w' → Calls Try.prog 35 #[.agg #[.int .u64 (nx : Nat), .int .u64 (lg : Nat), .slice va LS.length vc], .agg #[.int .u64 (nx : Nat), .int .u64 (lg : Nat), .slice vb LS.length vd]] w' (Fresh true w')) := fun w' hu => rsame_state rfl (hl1.upd0 hu) (hl3.upd0 hu)
    unfold EncPost at HE1 HE2
    unfold CheckPost at HC1 HC2
    generalize encB ⟨nx, lg, LS⟩ = eb at *
    generalize encE ⟨nx, lg, LS⟩ = ee at *
    generalize (if mayS ⟨nx, lg, LS⟩ = true then (0 : Int) else 2) = ce at *
    clear hl1 hl3
    obtain ⟨p0, p1, p2⟩ := box_cells HB5.out
    obtain ⟨q0, q1, q2⟩ := box_cells HB6.out
    go_wp2_with fail
    refine (HE1.out _ (Upd.refl _ _)).mono ?_
    rintro e w2 ⟨rfl, u2⟩
    have HV2 := Lib.hid u2
    have hb2 := u2.keep HB6.out (fun f => f)
    clear q0 q1 q2 p0 p1 p2
    obtain ⟨q0, q1, q2⟩ := box_cells hb2
    go_wp2_with fail
    refine (HE2.out _ u2).mono ?_
    rintro e w3 ⟨rfl, u3⟩
    have HV3 := Lib.hid (u2.trans u3 (fun _ _ f => f))
    clear q0 q1 q2 u2 u3 hb2 HV2 HE1 HE2
    have HKP : Hid (∀ w', Upd (fun _ => False) w3 w' → (w'.cell? ⟨b5, 0, none⟩ = some (.int .u64 (nx : Nat)) ∧ w'.cell? ⟨b5, 1, none⟩ = some (.int .u64 (lg : Nat)) ∧ w'.cell? ⟨b5, 2, none⟩ = some (.slice va LS.length vc)) ∧ (w'.cell? ⟨b6, 0, none⟩ = some (.int .u64 (nx : Nat)) ∧ w'.cell? ⟨b6, 1, none⟩ = some (.int .u64 (lg : Nat)) ∧ w'.cell? ⟨b6, 2, none⟩ = some (.slice vb LS.length vd))) := fun w' hu =>
      ⟨box_cells ((HV3.out.trans hu (fun _ _ f => f)).keep HB5.out (fun f => f)), box_cells ((HV3.out.trans hu (fun _ _ f => f)).keep HB6.out (fun f => f))⟩
    have hcs0 := HKP.out w3.drew (Upd.refl _ _).drew
    go_upto_region 4 with fail
    go_region_held3 (fun w' => (w'.cell? ⟨b5, 0, none⟩ = some (.int .u64 (nx : Nat)) ∧ w'.cell? ⟨b5, 1, none⟩ = some (.int .u64 (lg : Nat)) ∧ w'.cell? ⟨b5, 2, none⟩ = some (.slice va LS.length vc)) ∧ (w'.cell? ⟨b6, 0, none⟩ = some (.int .u64 (nx : Nat)) ∧ w'.cell? ⟨b6, 1, none⟩ = some (.int .u64 (lg : Nat)) ∧ w'.cell? ⟨b6, 2, none⟩ = some (.slice vb LS.length vd))) (first | exact hcs0 | exact hcs5 | exact hcs6 | exact hcs7) (first | (go_at_call 33; refine (HC1.out w3.drew (HV3.out.drew)).mono ?_; rintro e w5 ⟨rfl, u5⟩; have hv5 := ((Upd.refl (fun _ => False) w3).drew).trans u5 (fun _ _ f => f); have hcs5 := HKP.out w5 hv5; clear u5) | (go_at_call 34; refine (HC2.out _ (HV3.out.trans hv5 (fun _ _ f => f))).mono ?_; rintro e w6 ⟨rfl, u6⟩; have hv6 := hv5.trans u6 (fun _ _ f => f); have hcs6 := HKP.out w6 hv6; clear u6) | (go_at_call 35; refine (HS1.out _ (HV3.out.trans hv6 (fun _ _ f => f))).mono ?_; rintro e w7 ⟨rfl, u7⟩; have hv7 := hv6.trans u7 (fun _ _ f => f); have hcs7 := HKP.out w7 hv7; clear u7))
    have HU7 := Lib.hid (HU2.out.trans (HV3.out.trans hv7 (fun _ _ f => f)) (fun _ _ f => f))
    clear hcs0 hcs5 hcs6 hcs7 hv5 hv6 hv7 HKP HS1 HC1 HC2 HB5 HB6 HU2 HV3 HOK HLN HF
    obtain ⟨m, hm⟩ : ∃ m : Nat, min (b.size : Int) 5000 = (m : Int) := ⟨min b.size 5000, by omega⟩
    have hmb : m ≤ b.size := by omega
    have hmc : (m : Int) ≤ (b.size : Int) := by omega
    have hm0 : (0 : Int) ≤ (m : Int) := by omega
    have hbb : (b.extract 0 m).size ≤ 9223372036854775807 := by
      have := HB.out
      rw [ByteArray.size_extract]
      omega
    have HWK : Hid (∀ w', Calls Try.prog 38 #[] w' (Fresh true w')) := fun w' => mworks_any w'
    cases hd : decodeS (b.extract 0 m) with
    | none =>
      have HD1 : Hid (∀ w', Calls Try.prog 36 #[.string (b.extract 0 m)] w' (DecPost none w')) := fun w' => by rw [← hd]; exact decode_any _ hbb
      have HD2 : Hid (∀ w', Calls Try.prog 37 #[.string (b.extract 0 m)] w' (DecOut none w')) := fun w' => by rw [← hd]; exact rdecode_any _ hbb
      clear hd hbb
      go_upto_region 8 with (go_at_call 36; refine (HD1.out _).mono ?_; rintro e w8 ⟨rfl, u8⟩)
      go_upto_region 9 with (go_at_call 37; refine (HD2.out _).mono ?_; rintro e w9 ⟨rfl, u9⟩)
      have hb8 := heap_alloc (w := w8) (.cells #[.int .u64 0, .int .u64 0, .slice none 0 0] 45)
      have ha8 : Upd (fun _ => False) w8 (w8.alloc (.cells #[.int .u64 0, .int .u64 0, .slice none 0 0] 45)) := (Upd.refl _ w8).alloc _
      have hb9 := heap_alloc (w := w9) (.cells #[.int .u64 0, .int .u64 0, .slice none 0 0] 45)
      have ha9 : Upd (fun _ => False) w9 (w9.alloc (.cells #[.int .u64 0, .int .u64 0, .slice none 0 0] 45)) := (Upd.refl _ w9).alloc _
      have hb8' := ha9.keep (u9.keep hb8 (fun f => f)) (fun f => f)
      have HSM : Hid (Calls Try.prog 35 #[.agg #[.int .u64 0, .int .u64 0, .slice none 0 0], .agg #[.int .u64 0, .int .u64 0, .slice none 0 0]] (w9.alloc (.cells #[.int .u64 0, .int .u64 0, .slice none 0 0] 45)) (Fresh true (w9.alloc (.cells #[.int .u64 0, .int .u64 0, .slice none 0 0] 45)))) := rsame_state (x := 0) (y := 0) (ls := []) rfl (LevsAt.nil _) (LevsAt.nil _)
      have HU9 := Lib.hid (HU7.out.trans (u8.trans (ha8.trans (u9.trans ha9 (fun _ _ f => f)) (fun _ _ f => f)) (fun _ _ f => f)) (fun _ _ f => f))
      obtain ⟨p0, p1, p2⟩ := box_cells hb8'
      obtain ⟨q0, q1, q2⟩ := box_cells hb9
      clear u8 u9 ha8 ha9 hb8 hb9 hb8'
      generalize w9.alloc (.cells #[.int .u64 0, .int .u64 0, .slice none 0 0] 45) = wz at *
      generalize w9.heap.size = g9 at *
      generalize w8.heap.size = g8 at *
      go_wp2_with fail
      refine HSM.out.mono ?_
      rintro e wy ⟨rfl, uy⟩
      go_wp2_with fail
      refine (HWK.out _).mono ?_
      rintro e wv ⟨rfl, uv⟩
      go_wp2_with fail
      go_ret
      exact ⟨rfl, HU9.out.trans (uy.trans uv (fun _ _ f => f)) (fun _ _ f => f)⟩
    | some x =>
      have HD1 : Hid (∀ w', Calls Try.prog 36 #[.string (b.extract 0 m)] w' (DecPost (some x) w')) := fun w' => by rw [← hd]; exact decode_any _ hbb
      have HD2 : Hid (∀ w', Calls Try.prog 37 #[.string (b.extract 0 m)] w' (DecOut (some x) w')) := fun w' => by rw [← hd]; exact rdecode_any _ hbb
      clear hd hbb
      go_upto_region 8 with (go_at_call 36; refine (HD1.out _).mono ?_; rintro e w8 ⟨xa, xc, rfl, o8, u8⟩)
      go_upto_region 9 with (go_at_call 37; refine (HD2.out _).mono ?_; rintro e w9 ⟨ya, yc, rfl, o9, u9⟩)
      have hb8 := heap_alloc (w := w8) (.cells #[.int .u64 (x.next : Nat), .int .u64 (x.log : Nat), .slice xa x.levels.length xc] 45)
      have ha8 : Upd (fun _ => False) w8 (w8.alloc (.cells #[.int .u64 (x.next : Nat), .int .u64 (x.log : Nat), .slice xa x.levels.length xc] 45)) := (Upd.refl _ w8).alloc _
      have hb9 := heap_alloc (w := w9) (.cells #[.int .u64 (x.next : Nat), .int .u64 (x.log : Nat), .slice ya x.levels.length yc] 45)
      have ha9 : Upd (fun _ => False) w9 (w9.alloc (.cells #[.int .u64 (x.next : Nat), .int .u64 (x.log : Nat), .slice ya x.levels.length yc] 45)) := (Upd.refl _ w9).alloc _
      have hb8' := ha9.keep (u9.keep hb8 (fun f => f)) (fun f => f)
      have HSM : Hid (Calls Try.prog 35 #[.agg #[.int .u64 (x.next : Nat), .int .u64 (x.log : Nat), .slice xa x.levels.length xc], .agg #[.int .u64 (x.next : Nat), .int .u64 (x.log : Nat), .slice ya x.levels.length yc]] (w9.alloc (.cells #[.int .u64 (x.next : Nat), .int .u64 (x.log : Nat), .slice ya x.levels.length yc] 45)) (Fresh true (w9.alloc (.cells #[.int .u64 (x.next : Nat), .int .u64 (x.log : Nat), .slice ya x.levels.length yc] 45)))) := rsame_state rfl (((o8.upd0 ha8).upd0 u9).upd0 ha9) (o9.levs.upd0 ha9)
      have HU9 := Lib.hid (HU7.out.trans (u8.trans (ha8.trans (u9.trans ha9 (fun _ _ f => f)) (fun _ _ f => f)) (fun _ _ f => f)) (fun _ _ f => f))
      obtain ⟨p0, p1, p2⟩ := box_cells hb8'
      obtain ⟨q0, q1, q2⟩ := box_cells hb9
      clear u8 u9 ha8 ha9 hb8 hb9 hb8'
      generalize w9.alloc (.cells #[.int .u64 (x.next : Nat), .int .u64 (x.log : Nat), .slice ya x.levels.length yc] 45) = wz at *
      generalize w9.heap.size = g9 at *
      generalize w8.heap.size = g8 at *
      go_wp2_with fail
      refine HSM.out.mono ?_
      rintro e wy ⟨rfl, uy⟩
      go_wp2_with fail
      refine (HWK.out _).mono ?_
      rintro e wv ⟨rfl, uv⟩
      go_wp2_with fail
      go_ret
      exact ⟨rfl, HU9.out.trans (uy.trans uv (fun _ _ f => f)) (fun _ _ f => f)⟩
theorem lays_law (x y : Nat) (a : Option Addr) (n ca : Nat) (ls : List (List PF)) (b : ByteArray) (w : World) (h0 : FilesIn w x y a n ca ls) (h1 : b.size ≤ 140737488351232) :
    Calls Try.prog 11 #[.agg #[.int .u64 (x : Nat), .int .u64 (y : Nat), .slice a n ca], .string b] w (Fresh true w) := lays_any b h0 h1
end Go.Proofs.Ytgkegfgdpekehaa
