/- A state that came in (the argument of ManifestLays), opened. -/
import Derived.Test.YtgkegfgdpekehaaGreatMi
import Derived.Test.YtgkegfgdpekehaaGreatEa
namespace Go.Proofs.YtgkegfgdpekehaaGreat
open Go.RowKit Go.Acre Go.Acre.Dk
theorem list_choose {α : Type} {P : Nat → α → Prop} : ∀ {n : Nat}, (∀ i, i < n → ∃ x, P i x) → ∃ l : List α, l.length = n ∧ ∀ i (hi : i < l.length), P i l[i]
  | 0, _ => ⟨[], rfl, fun i hi => by cases hi⟩
  | n + 1, h => by
    obtain ⟨l, h1, h2⟩ := list_choose (n := n) (fun i hi => h i (by omega))
    obtain ⟨x, hx⟩ := h n (by omega)
    refine ⟨l ++ [x], by simp [h1], fun i hi => ?_⟩
    by_cases hil : i < l.length
    · rw [List.getElem_append_left hil]
      exact h2 i hil
    · simp only [List.length_append, List.length_singleton] at hi
      obtain rfl : i = l.length := by omega
      simp only [List.getElem_concat_length]
      rw [h1]
      exact hx
def PFok (f : PF) : Prop := f.id < 18446744073709551616
theorem uint64_of_wf {n : Int} (h : (Lit.int .u64 n).wf = true) : 0 ≤ n ∧ n < 18446744073709551616 := by
  simp [Lit.wf, IntKind.min, IntKind.max, IntKind.signed, IntKind.bits] at h
  omega
/-- a state that came in -/
def FilesIn (w : World) (x y : Nat) (a : Option Addr) (n ca : Nat) (ls : List (List PF)) : Prop :=
  n = ls.length ∧ LevsAt w (.slice a n ca) ls ∧ (∀ l ∈ ls, l.length * 48 ≤ 140737488355328) ∧ (∀ l ∈ ls, ∀ f ∈ l, PFok f) ∧ x < 18446744073709551616 ∧ y < 18446744073709551616
section
open Go.ChangeShapes Go.WideShapes Go.Deep
variable {H : Type} {enc : TypeId × Value → H} {w : World} {held : Bool}
theorem lev_open {base fuel len cap : Nat} {a : Option Addr} {x : DataW H × List MemPlace} (h : DataW.trod enc Tryz.prog w base (fun _ => true) held fuel 70 (Value.slice a len cap).cells.toList = some x)
    (hw : ∀ n ∈ x.1.weights Tryz.prog 70, n ≤ reachBytes) : ∃ l : List PF, len = l.length ∧ LevAt w (.slice a len cap) l ∧ l.length * 48 ≤ 140737488355328 ∧ ∀ f ∈ l, PFok f := by
  rcases open_slice_full Tryz.underlying70 Tryz.underlying72 (by kernel_rfl) (by kernel_rfl) h with ⟨hcs, _⟩ | ⟨⟨b, off, spot⟩, l, c, m, D, Pl, hcs, hb, hl, hm, hmm, hx, hi⟩
  · simp [Value.cells] at hcs
    obtain ⟨rfl, rfl, rfl⟩ := hcs
    exact ⟨[], rfl, RowAt.nil w 4, by simp, fun f hf => by cases hf⟩
  · simp [Value.cells] at hcs
    obtain ⟨rfl, rfl, rfl⟩ := hcs
    have hmc : m = cap := by simpa using hmm
    have hP : ∀ i, i < len → ∃ f : PF, spot = none ∧ PFok f ∧ w.cell? ⟨b, off + i * 4, none⟩ = some (.int .u64 (f.id : Nat)) ∧ w.cell? ⟨b, off + i * 4 + 1, none⟩ = some (.string f.low) ∧ w.cell? ⟨b, off + i * 4 + 2, none⟩ = some (.string f.high) ∧ w.cell? ⟨b, off + i * 4 + 3, none⟩ = some (.int .i64 f.cells) := by
      intro i hil
      obtain ⟨ys, n, hD, _, hyl, hf⟩ := hi i (by omega)
      obtain ⟨v0, y0, c0, _, t0⟩ := hf 0 _ rfl
      obtain ⟨v1, y1, c1, _, t1⟩ := hf 1 _ rfl
      obtain ⟨v2, y2, c2, _, t2⟩ := hf 2 _ rfl
      obtain ⟨v3, y3, c3, _, t3⟩ := hf 3 _ rfl
      obtain ⟨k, e0, _, hk⟩ := DataW.trod_int (k := .u64) Tryz.underlying25 t0
      obtain ⟨lo, e1, _, _⟩ := DataW.trod_string Tryz.underlying9 t1
      obtain ⟨hi2, e2, _, _⟩ := DataW.trod_string Tryz.underlying9 t2
      obtain ⟨z, e3, _, _⟩ := DataW.trod_int (k := .i64) Tryz.underlying3 t3
      simp only [List.cons.injEq, and_true] at e0 e1 e2 e3
      subst e0 e1 e2 e3
      have hspot : spot = none := by
        obtain ⟨_, _, _, _, _, hf'⟩ := hi 0 (by omega)
        obtain ⟨v', y', c', _, t'⟩ := hf' 0 _ rfl
        simpa [Addr.add] using World.cell?_spot c'
      subst hspot
      rw [none_add] at c0 c1 c2 c3
      rw [← Nat.add_assoc] at c0 c1 c2 c3
      have hk2 := uint64_of_wf hk
      obtain ⟨k, rfl⟩ : ∃ k' : Nat, k = (k' : Int) := ⟨k.toNat, by omega⟩
      exact ⟨⟨k, lo, hi2, z⟩, rfl, (by show k < _; omega), c0, c1, c2, c3⟩
    obtain ⟨fs, h1, h2⟩ := list_choose hP
    refine ⟨fs, h1.symm, ⟨by rw [flatP_len, h1], some ⟨b, off, spot⟩, cap, by rw [h1], by omega, by omega, (fun e => by cases e), fun hne => ?_⟩, ?_, fun f hf => ?_⟩
    · have hpos : 0 < fs.length := by
        cases fs with
        | nil => exact absurd rfl hne
        | cons f r => simp
      obtain ⟨hs, _⟩ := h2 0 hpos
      subst hs
      refine ⟨b, off, rfl, fun i hi => ?_⟩
      rw [flatP_len] at hi
      have hq : i / 4 < fs.length := by omega
      obtain ⟨_, _, c0, c1, c2, c3⟩ := h2 (i / 4) hq
      obtain ⟨z0, z1, z2, z3⟩ := flatP_at fs (i / 4) hq
      have hcase : i = i / 4 * 4 ∨ i = i / 4 * 4 + 1 ∨ i = i / 4 * 4 + 2 ∨ i = i / 4 * 4 + 3 := by omega
      generalize i / 4 = q at *
      rcases hcase with rfl | rfl | rfl | rfl
      · rw [z0]; exact c0
      · rw [z1, ← Nat.add_assoc]; exact c1
      · rw [z2, ← Nat.add_assoc]; exact c2
      · rw [z3, ← Nat.add_assoc]; exact c3
    · have hb93 : Tryz.prog.bytesOf 72 = 48 := by kernel_rfl
      have h3 := hw ((((List.range len).map D).length + ((List.range (m - len)).map fun j => D (len + j)).length) * Tryz.prog.bytesOf 72) (by rw [hx]; simp only [DataW.weights, Tryz.underlying70, List.mem_cons]; exact .inl trivial)
      rw [hb93] at h3
      simp only [List.length_map, List.length_range] at h3
      unfold reachBytes at h3
      omega
    · obtain ⟨i, hi3, rfl⟩ := List.mem_iff_getElem.1 hf
      exact (h2 i hi3).2.1
set_option maxRecDepth 100000 in
theorem levs_open {base fuel len cap : Nat} {a : Option Addr} {x : DataW H × List MemPlace} (h : DataW.trod enc Tryz.prog w base (fun _ => true) held fuel 26 (Value.slice a len cap).cells.toList = some x)
    (hw : ∀ n ∈ x.1.weights Tryz.prog 26, n ≤ reachBytes) : ∃ ls : List (List PF), len = ls.length ∧ LevsAt w (.slice a len cap) ls ∧ (∀ l ∈ ls, l.length * 48 ≤ 140737488355328) ∧ ∀ l ∈ ls, ∀ f ∈ l, PFok f := by
  rcases open_slice Tryz.underlying26 h with ⟨hcs, _⟩ | ⟨⟨b, off, spot⟩, l, c, m, n, D, Pl, hcs, hb, hl, hm, hmm, hx, hi⟩
  · simp [Value.cells] at hcs
    obtain ⟨rfl, rfl, rfl⟩ := hcs
    exact ⟨[], rfl, LevsAt.nil w, (fun f hf => by cases hf), fun f hf => by cases hf⟩
  · simp [Value.cells] at hcs
    obtain ⟨rfl, rfl, rfl⟩ := hcs
    have hmc : m = cap := by simpa using hmm
    have hP : ∀ i, i < len → ∃ p : Value × List PF, spot = none ∧ w.cell? ⟨b, off + i, none⟩ = some p.1 ∧ LevAt w p.1 p.2 ∧ p.2.length * 48 ≤ 140737488355328 ∧ ∀ f ∈ p.2, PFok f := by
      intro i hil
      obtain ⟨cs', hc, ht⟩ := hi i (by omega)
      have hc1 : Tryz.prog.cellsOf 70 = 1 := by kernel_rfl
      rw [hc1] at hc
      obtain ⟨_, hcl, hat⟩ := World.cells?_some hc
      have hcell := hat 0 (by omega)
      match cs', hcl with
      | [v], _ =>
        simp only [List.getElem?_cons_zero] at hcell
        obtain ⟨la, ll, lc, rfl⟩ : ∃ ka kl kc, v = .slice ka kl kc := by
          rcases open_slice Tryz.underlying70 ht with ⟨e3, _⟩ | ⟨_, _, _, _, _, _, _, e3, _⟩ <;> (simp only [List.cons.injEq, and_true] at e3; exact ⟨_, _, _, e3⟩)
        have hspot : spot = none := by
          obtain ⟨cs0, hc0, _⟩ := hi 0 (by omega)
          rw [hc1] at hc0
          obtain ⟨_, hcl0, hat0⟩ := World.cells?_some hc0
          have h00 := hat0 0 (by omega)
          match cs0, hcl0 with
          | [v0], _ =>
            simp only [List.getElem?_cons_zero] at h00
            simpa [Addr.add] using World.cell?_spot h00
        subst hspot
        rw [none_add, none_add, Nat.mul_one, Nat.add_zero] at hcell
        obtain ⟨fs, f1, f2, f3, f4⟩ := lev_open (show DataW.trod enc Tryz.prog w base (fun _ => true) held n 70 (Value.slice la ll lc).cells.toList = some (D i, Pl i) from ht) (fun z hz => hw z (by
          rw [hx]
          simp only [DataW.weights, Tryz.underlying26, List.mem_cons, List.mem_append]
          exact .inr (.inl (weights_all_mem (List.mem_map.2 ⟨i, List.mem_range.2 hil, rfl⟩) _ hz))))
        refine ⟨(.slice la ll lc, fs), rfl, ?_, f2, f3, f4⟩
        exact hcell
    obtain ⟨ps, h1, h2⟩ := list_choose hP
    refine ⟨ps.map (·.2), by simp [h1], ⟨ps.map (·.1), ⟨by simp, some ⟨b, off, spot⟩, cap, by simp [h1], by simp; omega, by omega, (fun e => by cases e), fun hne => ?_⟩, fun i hi => ?_⟩, fun l hl => ?_, fun l hl => ?_⟩
    · have hpos : 0 < ps.length := by
        cases ps with
        | nil => exact absurd rfl hne
        | cons f r => simp
      obtain ⟨hs, _⟩ := h2 0 hpos
      subst hs
      refine ⟨b, off, rfl, fun i hi => ?_⟩
      rw [List.length_map] at hi
      rw [(h2 i hi).2.1, List.getElem?_map, List.getElem?_eq_getElem hi]
      rfl
    · rw [List.length_map] at hi
      refine ⟨ps[i].1, by rw [List.getElem?_map, List.getElem?_eq_getElem hi]; rfl, ?_⟩
      rw [List.getElem_map]
      exact (h2 i hi).2.2.1
    · obtain ⟨p, hp, rfl⟩ := List.mem_map.1 hl
      obtain ⟨i, hi3, rfl⟩ := List.mem_iff_getElem.1 hp
      exact (h2 i hi3).2.2.2.1
    · obtain ⟨p, hp, rfl⟩ := List.mem_map.1 hl
      obtain ⟨i, hi3, rfl⟩ := List.mem_iff_getElem.1 hp
      exact (h2 i hi3).2.2.2.2
set_option maxRecDepth 100000 in
theorem files_open {base : Nat} {v : Value} {fuel : Nat} {x : DataW H × List MemPlace} (hv : ∃ cs, v = .agg cs ∧ cs.size = Tryz.prog.cellsOf 28) (h : DataW.trod enc Tryz.prog w base (fun _ => true) held fuel 28 v.cells.toList = some x)
    (hw : ∀ n ∈ x.1.weights Tryz.prog 28, n ≤ reachBytes) : ∃ (nx lg : Nat) (a : Option Addr) (n ca : Nat) (ls : List (List PF)), v = .agg #[.int .u64 (nx : Nat), .int .u64 (lg : Nat), .slice a n ca] ∧ FilesIn w nx lg a n ca ls := by
  obtain ⟨cs, rfl, hcs⟩ := hv
  have hc3 : Tryz.prog.cellsOf 28 = 3 := by kernel_rfl
  rw [hc3] at hcs
  obtain ⟨y0, y1, y2, n, rfl, hl, t0, t1, t2⟩ := trod_struct3 Tryz.underlying28 h
  obtain ⟨c0, c1, c2, rfl⟩ : ∃ c0 c1 c2, cs = #[c0, c1, c2] := by
    obtain ⟨l⟩ := cs
    match l, hcs with
    | [a, b, c], _ => exact ⟨a, b, c, rfl⟩
  have t0' : DataW.trod enc Tryz.prog w base (fun _ => true) held n 25 [c0] = some y0 := t0
  have t1' : DataW.trod enc Tryz.prog w base (fun _ => true) held n 25 [c1] = some y1 := t1
  have t2' : DataW.trod enc Tryz.prog w base (fun _ => true) held n 26 [c2] = some y2 := t2
  obtain ⟨k0, e0, _, hk0⟩ := DataW.trod_int (k := .u64) Tryz.underlying25 t0'
  obtain ⟨k1, e1, _, hk1⟩ := DataW.trod_int (k := .u64) Tryz.underlying25 t1'
  obtain ⟨la, ll, lc, rfl⟩ : ∃ ka kl kc, c2 = .slice ka kl kc := by
    rcases open_slice Tryz.underlying26 t2' with ⟨e3, _⟩ | ⟨_, _, _, _, _, _, _, e3, _⟩ <;> (simp only [List.cons.injEq, and_true] at e3; exact ⟨_, _, _, e3⟩)
  simp only [List.cons.injEq, and_true] at e0 e1
  subst e0 e1
  have a0 := uint64_of_wf hk0
  have a1 := uint64_of_wf hk1
  obtain ⟨k0, rfl⟩ : ∃ k' : Nat, k0 = (k' : Int) := ⟨k0.toNat, by omega⟩
  obtain ⟨k1, rfl⟩ : ∃ k' : Nat, k1 = (k' : Int) := ⟨k1.toNat, by omega⟩
  obtain ⟨ls, h1, h2, h3, h4⟩ := levs_open (show DataW.trod enc Tryz.prog w base (fun _ => true) held n 26 (Value.slice la ll lc).cells.toList = some y2 from t2') (fun z hz => hw z (by
    show z ∈ DataW.weights Tryz.prog 28 (.agg [y0.1, y1.1, y2.1])
    simp only [DataW.weights, Tryz.underlying28]
    exact DataW.weights_mem_each (j := 2) (t := 26) (d := y2.1) rfl rfl z hz))
  exact ⟨k0, k1, la, ll, lc, ls, rfl, h1, h2, h3, h4, by omega, by omega⟩
end
end Go.Proofs.YtgkegfgdpekehaaGreat
