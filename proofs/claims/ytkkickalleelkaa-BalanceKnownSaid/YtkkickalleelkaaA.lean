/- Cells in memory: a slice of cells reads as a list; a slice of cells that came in, opened. -/
import Derived.Test.YtkkickalleelkaaL
import Derived.Test.YtkkickalleelkaaS
import Derived.Test.YtkkickalleelkaaProg
import Derived.Outline
import Derived.SizedLaws
import Derived.Deep.Slices
import Derived.Deep.Fields
import Derived.Lib.SmallJoins
namespace Go.Proofs.Ytkkickalleelkaa
open Go.RowKit Go.Acre
structure Ce where
  row : ByteArray
  col : ByteArray
  ver : Nat
  gone : Bool
  val : ByteArray
def flatC (l : List Ce) : List Value := l.flatMap fun f => [.string f.row, .string f.col, .int .u64 (f.ver : Nat), .bool f.gone, .string f.val]
theorem flatC_cons (f : Ce) (l : List Ce) : flatC (f :: l) = [.string f.row, .string f.col, .int .u64 (f.ver : Nat), .bool f.gone, .string f.val] ++ flatC l := rfl
theorem flatC_len (l : List Ce) : (flatC l).length = l.length * 5 := by
  induction l with
  | nil => rfl
  | cons f r ih => rw [flatC_cons, List.length_append, ih, List.length_cons]; simp; omega
theorem flatC_at (l : List Ce) (i : Nat) (h : i < l.length) : (flatC l)[i * 5]? = some (.string l[i].row) ∧ (flatC l)[i * 5 + 1]? = some (.string l[i].col) ∧ (flatC l)[i * 5 + 2]? = some (.int .u64 (l[i].ver : Nat)) ∧ (flatC l)[i * 5 + 3]? = some (.bool l[i].gone) ∧ (flatC l)[i * 5 + 4]? = some (.string l[i].val) := by
  induction l generalizing i with
  | nil => cases h
  | cons f r ih =>
    rw [flatC_cons]
    cases i with
    | zero => exact ⟨rfl, rfl, rfl, rfl, rfl⟩
    | succ i =>
      obtain ⟨a, b, c, d, e⟩ := ih i (by simpa using h)
      have e1 : (i + 1) * 5 = i * 5 + 5 := by omega
      rw [e1]
      refine ⟨?_, ?_, ?_, ?_, ?_⟩
      · rw [List.getElem?_append_right (by simp)]; simpa using a
      · rw [List.getElem?_append_right (by simp)]; simpa using b
      · rw [List.getElem?_append_right (by simp)]; simpa using c
      · rw [List.getElem?_append_right (by simp)]; simpa using d
      · rw [List.getElem?_append_right (by simp)]; simpa using e
theorem flatC_cell (l : List Ce) : ∀ u ∈ flatC l, u.oneCell' = true := by
  intro u hu
  obtain ⟨f, _, hf⟩ := List.mem_flatMap.1 hu
  simp only [List.mem_cons, List.not_mem_nil, or_false] at hf
  rcases hf with rfl | rfl | rfl | rfl | rfl <;> rfl
theorem flatC_take (l : List Ce) (m : Nat) : flatC (l.take m) = (flatC l).take (m * 5) := by
  induction l generalizing m with
  | nil => simp [flatC]
  | cons f r ih =>
    cases m with
    | zero => simp [flatC]
    | succ m =>
      rw [List.take_succ_cons, flatC_cons, flatC_cons, ih, show (m + 1) * 5 = m * 5 + 5 from by omega]
      simp
/-- a slice that holds cells -/
def CellsAt (w : World) (v : Value) (l : List Ce) : Prop := RowAt w 5 v l.length (flatC l)
theorem CellsAt.upd0 {w w' : World} {v : Value} {l : List Ce} (h : CellsAt w v l) (hu : Upd (fun _ => False) w w') : CellsAt w' v l := RowAt.upd0 h hu
theorem CellsAt.cell {w : World} {a : Option Addr} {n cap : Nat} {l : List Ce} (h : CellsAt w (.slice a n cap) l) {i : Nat} (hi : i < l.length) :
    ∃ g o, a = some ⟨g, o, none⟩ ∧ w.cell? ⟨g, o + i * 5, none⟩ = some (.string l[i].row) ∧ w.cell? ⟨g, o + i * 5 + 1, none⟩ = some (.string l[i].col) ∧ w.cell? ⟨g, o + i * 5 + 2, none⟩ = some (.int .u64 (l[i].ver : Nat)) ∧ w.cell? ⟨g, o + i * 5 + 3, none⟩ = some (.bool l[i].gone) ∧ w.cell? ⟨g, o + i * 5 + 4, none⟩ = some (.string l[i].val) := by
  obtain ⟨hl, a', c', hv, _, _, _, hc⟩ := h
  simp only [Value.slice.injEq] at hv
  obtain ⟨rfl, rfl, rfl⟩ := hv
  have hlen := flatC_len l
  obtain ⟨g, o, hg, hcell⟩ := hc (by intro e; rw [e] at hlen; simp at hlen; omega)
  obtain ⟨x, y, z, u, t⟩ := flatC_at l i hi
  exact ⟨g, o, hg, by rw [hcell _ (by omega)]; exact x, by rw [Nat.add_assoc, hcell _ (by omega)]; exact y, by rw [Nat.add_assoc, hcell _ (by omega)]; exact z, by rw [Nat.add_assoc, hcell _ (by omega)]; exact u, by rw [Nat.add_assoc, hcell _ (by omega)]; exact t⟩
theorem CellsAt.slice {w : World} {v : Value} {l : List Ce} (h : CellsAt w v l) : ∃ a cap, v = .slice a l.length cap ∧ l.length ≤ cap ∧ cap ≤ maxLen := by
  obtain ⟨_, a, cap, rfl, h1, h2, _⟩ := h
  exact ⟨a, cap, rfl, h1, h2⟩
theorem CellsAt.take {w : World} {a : Option Addr} {n cap : Nat} {l : List Ce} (h : CellsAt w (.slice a n cap) l) (m : Nat) (hm : m ≤ n) : CellsAt w (.slice a m cap) (l.take m) := by
  obtain ⟨hl, a', c', hv, h1, h2, h3, hc⟩ := h
  simp only [Value.slice.injEq] at hv
  obtain ⟨rfl, hn, rfl⟩ := hv
  have hlen : (l.take m).length = m := by rw [List.length_take]; omega
  refine ⟨by rw [flatC_len], a, cap, by rw [hlen], by omega, h2, h3, fun hne => ?_⟩
  rw [flatC_take] at hne ⊢
  obtain ⟨g, o, hg, hcell⟩ := hc (fun e => hne (by rw [e]; simp))
  refine ⟨g, o, hg, fun i hi => ?_⟩
  simp only [List.length_take] at hi
  rw [hcell i (by omega), List.getElem?_take, if_pos (by omega)]
/-- a cell whose texts are no longer than what can be handed in -/
def CeOk (f : Ce) : Prop := f.row.size ≤ 140737488351232 ∧ f.col.size ≤ 140737488351232 ∧ f.val.size ≤ 140737488351232 ∧ f.ver < 18446744073709551616
theorem uint64_of_wf {n : Int} (h : (Lit.int .u64 n).wf = true) : 0 ≤ n ∧ n < 18446744073709551616 := by
  simp [Lit.wf, IntKind.min, IntKind.max, IntKind.signed, IntKind.bits] at h
  omega
theorem list_choose {α : Type} {P : Nat → α → Prop} : ∀ {n : Nat}, (∀ i, i < n → ∃ x, P i x) → ∃ l : List α, l.length = n ∧ ∀ i (hi : i < l.length), P i l[i]
  | 0, _ => ⟨[], rfl, fun i hi => by cases hi⟩
  | n + 1, h => by
    obtain ⟨l, h1, h2⟩ := list_choose (n := n) (fun i hi => h i (by omega))
    obtain ⟨x, hx⟩ := h n (by omega)
    refine ⟨l ++ [x], by simp [h1], fun i hi => ?_⟩
    by_cases hil : i < l.length
    · rw [List.getElem_append_left hil]
      exact h2 i hil
    · simp only [List.length_append, List.length_singleton] at hi
      obtain rfl : i = l.length := by omega
      simp only [List.getElem_concat_length]
      rw [h1]
      exact hx
theorem none_add (b o k : Nat) : (⟨b, o, none⟩ : Addr).add k = ⟨b, o + k, none⟩ := by unfold Addr.add; split <;> simp_all
section
open Go.ChangeShapes Go.WideShapes Go.Deep
variable {H : Type} {enc : TypeId × Value → H} {w : World} {base : Nat} {held : Bool}
theorem weights_all_mem {P : Program} {e : TypeId} {d : DataW H} : ∀ {l : List (DataW H)}, d ∈ l → ∀ n ∈ d.weights P e, n ∈ DataW.weightsAll P e l
  | x :: r, hd, n, hn => by
    simp only [DataW.weightsAll, List.mem_append]
    rcases List.mem_cons.1 hd with rfl | h
    · exact .inl hn
    · exact .inr (weights_all_mem h n hn)
theorem open_slice_full {P : Program} {spare : Nat → Bool} {t e : TypeId} {fs : Array Field} {fuel : Nat} {cs : List Value} {x : DataW H × List MemPlace} (ht : P.underlying t = some (.slice e)) (he : P.underlying e = some (.struct fs))
    (hone : oneCellFields P fs = true) (hC : P.cellsOf e = fs.size) (h : DataW.trod enc P w base spare held fuel t cs = some x) :
    (cs = [.slice none 0 0] ∧ x = (.nil, [])) ∨
    ∃ (a : Addr) (len cap m : Nat) (D : Nat → DataW H) (Pl : Nat → List MemPlace), cs = [.slice (some a) len cap] ∧ base ≤ a.block ∧ len ≤ cap ∧ cap ≤ maxLen ∧ m = (if spare a.block then cap else len) ∧
      x = (.slice ((List.range len).map D) ((List.range (m - len)).map fun j => D (len + j)), MemPlace.row a (m * fs.size) ++ (List.range m).flatMap Pl) ∧
      ∀ i, i < m → ∃ (ys : List (DataW H × List MemPlace)) (n : Nat), D i = .agg (ys.map (·.1)) ∧ Pl i = ys.flatMap (·.2) ∧ ys.length = fs.size ∧
        ∀ (j : Nat) (f : Field), fs[j]? = some f → ∃ (v : Value) (y : DataW H × List MemPlace), w.cell? (a.add (i * fs.size + j)) = some v ∧ ys[j]? = some y ∧ DataW.trod enc P w base spare held n f.type [v] = some y := by
  rcases open_slice ht h with h0 | ⟨a, len, cap, m, n, D, Pl, hcs, hb, hl, hm, hmm, hx, hi⟩
  · exact .inl h0
  · refine .inr ⟨a, len, cap, m, D, Pl, hcs, hb, hl, hm, hmm, by rw [hC] at hx; exact hx, fun i him => ?_⟩
    obtain ⟨cs', hc, ht'⟩ := hi i him
    rw [hC] at hc
    obtain ⟨ys, n', hn', hy, hlen, hyl, hf⟩ := DataW.trod_struct he ht'
    obtain ⟨_, hcl, hat⟩ := World.cells?_some hc
    simp only [Prod.mk.injEq] at hy
    refine ⟨ys, n', hy.1, hy.2, hyl, fun j f hj => ?_⟩
    obtain ⟨ho, hk⟩ := hone_of hone j f hj
    have hjl : j < fs.size := (Array.getElem?_eq_some_iff.1 hj).1
    have hcell := hat j hjl
    have hv : cs'[j]? = some (cs'[j]'(by omega)) := List.getElem?_eq_getElem (by omega)
    have h1 := hf j f hj
    rw [ho, hk] at h1
    have hone' : (cs'.drop j).take 1 = [cs'[j]'(by omega)] := by
      rw [List.drop_eq_getElem_cons (by omega)]
      rfl
    rw [hone'] at h1
    have hys : ys[j]? = some (ys[j]'(by omega)) := List.getElem?_eq_getElem (by omega)
    refine ⟨_, _, ?_, hys, h1.trans hys⟩
    rw [← Go.Deep.add_add, hcell, hv]
set_option maxRecDepth 100000 in
theorem cells_open {fuel len cap : Nat} {a : Option Addr} {x : DataW H × List MemPlace} (h : DataW.trod enc Try.prog w base (fun _ => true) held fuel 22 (Value.slice a len cap).cells.toList = some x)
    (hw : ∀ n ∈ x.1.weights Try.prog 22, n ≤ reachBytes) : ∃ l : List Ce, len = l.length ∧ CellsAt w (.slice a len cap) l ∧ ∀ f ∈ l, CeOk f := by
  rcases open_slice_full Try.underlying22 Try.underlying48 (by kernel_rfl) (by kernel_rfl) h with ⟨hcs, _⟩ | ⟨⟨b, off, spot⟩, l, c, m, D, Pl, hcs, hb, hl, hm, hmm, hx, hi⟩
  · simp [Value.cells] at hcs
    obtain ⟨rfl, rfl, rfl⟩ := hcs
    exact ⟨[], rfl, RowAt.nil w 5, fun f hf => by cases hf⟩
  · simp [Value.cells] at hcs
    obtain ⟨rfl, rfl, rfl⟩ := hcs
    have hmc : m = cap := by simpa using hmm
    have hP : ∀ i, i < len → ∃ f : Ce, spot = none ∧ CeOk f ∧ w.cell? ⟨b, off + i * 5, none⟩ = some (.string f.row) ∧ w.cell? ⟨b, off + i * 5 + 1, none⟩ = some (.string f.col) ∧ w.cell? ⟨b, off + i * 5 + 2, none⟩ = some (.int .u64 (f.ver : Nat)) ∧ w.cell? ⟨b, off + i * 5 + 3, none⟩ = some (.bool f.gone) ∧ w.cell? ⟨b, off + i * 5 + 4, none⟩ = some (.string f.val) := by
      intro i hil
      obtain ⟨ys, n, hD, _, hyl, hf⟩ := hi i (by omega)
      obtain ⟨v0, y0, c0, q0, t0⟩ := hf 0 _ rfl
      obtain ⟨v1, y1, c1, q1, t1⟩ := hf 1 _ rfl
      obtain ⟨v2, y2, c2, _, t2⟩ := hf 2 _ rfl
      obtain ⟨v3, y3, c3, _, t3⟩ := hf 3 _ rfl
      obtain ⟨v4, y4, c4, q4, t4⟩ := hf 4 _ rfl
      have hin : ∀ z ∈ DataW.weightsEach Try.prog [9, 9, 31, 4, 9] (ys.map (·.1)), z ≤ reachBytes := by
        intro z hz
        refine hw z ?_
        rw [hx]
        simp only [DataW.weights, Try.underlying22, List.mem_cons, List.mem_append]
        refine .inr (.inl (weights_all_mem (List.mem_map.2 ⟨i, List.mem_range.2 hil, rfl⟩) z ?_))
        rw [hD]
        simp only [DataW.weights, Try.underlying48]
        exact hz
      obtain ⟨s0, e0, g0, _⟩ := DataW.trod_string Try.underlying9 t0
      obtain ⟨s1, e1, g1, _⟩ := DataW.trod_string Try.underlying9 t1
      obtain ⟨k, e2, _, hk⟩ := DataW.trod_int (k := .u64) Try.underlying31 t2
      obtain ⟨bb, e3, _⟩ := DataW.trod_bool Try.underlying4 t3
      obtain ⟨s4, e4, g4, _⟩ := DataW.trod_string Try.underlying9 t4
      simp only [List.cons.injEq, and_true] at e0 e1 e2 e3 e4
      subst e0 e1 e2 e3 e4
      have hspot : spot = none := by
        obtain ⟨_, _, _, _, _, hf'⟩ := hi 0 (by omega)
        obtain ⟨v', y', c', _, t'⟩ := hf' 0 _ rfl
        simpa [Addr.add] using World.cell?_spot c'
      subst hspot
      rw [none_add] at c0 c1 c2 c3 c4
      rw [← Nat.add_assoc] at c0 c1 c2 c3 c4
      have z0 : s0.size ≤ 140737488351232 := by
        have h1 := hin _ (DataW.weights_mem_each (j := 0) (t := 9) (d := .lit (.string s0.data.toList)) rfl (by rw [List.getElem?_map, q0, g0]; rfl) s0.data.toList.length (by simp [DataW.weights]))
        have e : s0.data.toList.length = s0.size := by rw [Array.length_toList]; rfl
        rw [e] at h1
        unfold reachBytes at h1
        omega
      have z1 : s1.size ≤ 140737488351232 := by
        have h1 := hin _ (DataW.weights_mem_each (j := 1) (t := 9) (d := .lit (.string s1.data.toList)) rfl (by rw [List.getElem?_map, q1, g1]; rfl) s1.data.toList.length (by simp [DataW.weights]))
        have e : s1.data.toList.length = s1.size := by rw [Array.length_toList]; rfl
        rw [e] at h1
        unfold reachBytes at h1
        omega
      have z4 : s4.size ≤ 140737488351232 := by
        have h1 := hin _ (DataW.weights_mem_each (j := 4) (t := 9) (d := .lit (.string s4.data.toList)) rfl (by rw [List.getElem?_map, q4, g4]; rfl) s4.data.toList.length (by simp [DataW.weights]))
        have e : s4.data.toList.length = s4.size := by rw [Array.length_toList]; rfl
        rw [e] at h1
        unfold reachBytes at h1
        omega
      have hk2 := uint64_of_wf hk
      obtain ⟨k, rfl⟩ : ∃ k' : Nat, k = (k' : Int) := ⟨k.toNat, by omega⟩
      exact ⟨⟨s0, s1, k, bb, s4⟩, rfl, ⟨z0, z1, z4, (by show k < _; omega)⟩, c0, c1, c2, c3, c4⟩
    obtain ⟨fs, h1, h2⟩ := list_choose hP
    refine ⟨fs, h1.symm, ⟨by rw [flatC_len, h1], some ⟨b, off, spot⟩, cap, by rw [h1], by omega, by omega, (fun e => by cases e), fun hne => ?_⟩, fun f hf => ?_⟩
    · have hpos : 0 < fs.length := by
        cases fs with
        | nil => exact absurd rfl hne
        | cons f r => simp
      obtain ⟨hs, _⟩ := h2 0 hpos
      subst hs
      refine ⟨b, off, rfl, fun i hi => ?_⟩
      rw [flatC_len] at hi
      have hq : i / 5 < fs.length := by omega
      obtain ⟨_, _, c0, c1, c2, c3, c4⟩ := h2 (i / 5) hq
      obtain ⟨z0, z1, z2, z3, z4⟩ := flatC_at fs (i / 5) hq
      have hcase : i = i / 5 * 5 ∨ i = i / 5 * 5 + 1 ∨ i = i / 5 * 5 + 2 ∨ i = i / 5 * 5 + 3 ∨ i = i / 5 * 5 + 4 := by omega
      generalize i / 5 = q at *
      rcases hcase with rfl | rfl | rfl | rfl | rfl
      · rw [z0]; exact c0
      · rw [z1, ← Nat.add_assoc]; exact c1
      · rw [z2, ← Nat.add_assoc]; exact c2
      · rw [z3, ← Nat.add_assoc]; exact c3
      · rw [z4, ← Nat.add_assoc]; exact c4
    · obtain ⟨i, hi3, rfl⟩ := List.mem_iff_getElem.1 hf
      exact (h2 i hi3).2.1
set_option maxRecDepth 100000 in
theorem range_open {v : Value} {fuel : Nat} {x : DataW H × List MemPlace} (hv : ∃ cs, v = .agg cs ∧ cs.size = Try.prog.cellsOf 24) (h : DataW.trod enc Try.prog w base (fun _ => true) held fuel 24 v.cells.toList = some x) :
    ∃ (lo hi : ByteArray), v = .agg #[.string lo, .string hi] ∧ lo.size ≤ maxLen ∧ hi.size ≤ maxLen := by
  obtain ⟨cs, rfl, hcs⟩ := hv
  have hc3 : Try.prog.cellsOf 24 = 2 := by kernel_rfl
  rw [hc3] at hcs
  obtain ⟨y0, y1, n, rfl, hl, t0, t1⟩ := trod_struct2 Try.underlying24 h
  obtain ⟨c0, c1, rfl⟩ : ∃ c0 c1, cs = #[c0, c1] := by
    obtain ⟨l⟩ := cs
    match l, hcs with
    | [a, b], _ => exact ⟨a, b, rfl⟩
  have t0' : DataW.trod enc Try.prog w base (fun _ => true) held n 9 [c0] = some y0 := t0
  have t1' : DataW.trod enc Try.prog w base (fun _ => true) held n 9 [c1] = some y1 := t1
  obtain ⟨s, e0, _, z0⟩ := DataW.trod_string Try.underlying9 t0'
  obtain ⟨t, e1, _, z1⟩ := DataW.trod_string Try.underlying9 t1'
  simp only [List.cons.injEq, and_true] at e0 e1
  subst e0 e1
  exact ⟨s, t, rfl, z0, z1⟩
end
end Go.Proofs.Ytkkickalleelkaa
