/- Plain lemmas of this claim: what a step leaves of the blocks of memory (Upd), slices that read as lists of integers (RowAt, IntsAt), a scope left by one jump, append of any readable slice. No program in sight; no conditions beyond those typed in each lemma. -/
import Derived.WalkKit
import Derived.Laws.AppendOwnNone
import Derived.WalkSpells
import Derived.WalkLawsBesides
import Derived.ScopeJumps
import Derived.WalkMore
import Derived.StillTailTactics
import Derived.Deep.QuietTactic
import Derived.BigQuiet
import Derived.Lib.Hide
import Derived.Deep.LoopGhost
import Derived.Deep.RegionHeld3
import Derived.Deep.RegionWith
import Derived.Deep.DeepCutAuto
import Derived.Laws.BytesArg
namespace Go
/-- a scope that is left by at most one jump back to its label -/
theorem wp_scope_once {P : Program} {a : Act} {w : World} {Q : Exit → Act → World → Prop} {c rest : Code} (l : Nat) (hf : findLabel c l = some rest)
    (h : c.wp P (Exit.jump l (fun a' w' => rest.wp P (Exit.noGoto Q) a' w') Q) a w) : (Code.scope c).wp P Q a w := by
  refine wp_scope_jumps l (fun a' w' => rest.wp P (Exit.noGoto Q) a' w') (fun _ _ => 0) hf h ?_
  intro a w hJ
  exact Code.wp_mono (fun e a w q => by cases e <;> first | exact q | exact q.elim) hJ
section
variable {Q : Exit → Act → World → Prop} {a : Act} {w : World} {J : Act → World → Prop} {l : Nat}
theorem Exit.jump_goto : Exit.jump l J Q (.goto l) a w = J a w := by simp [Exit.jump]
theorem Exit.jump_normal : Exit.jump l J Q .normal a w = Q .normal a w := rfl
theorem Exit.jump_ret : Exit.jump l J Q .ret a w = Q .ret a w := rfl
theorem Exit.jump_exit (id : Nat) : Exit.jump l J Q (.exit id) a w = Q (.exit id) a w := rfl
end

namespace Acre
open Go.RowKit

/-- From w to w' only blocks of S (and new ones) have turned. -/
structure Upd (S : Nat → Prop) (w w' : World) : Prop where
  os : w'.os = w.os
  tape : w'.tape = w.tape
  output : w'.output = w.output
  size : w.heap.size ≤ w'.heap.size
  block : ∀ k, k < w.heap.size → ¬ S k → w'.heap[k]? = w.heap[k]?

theorem Upd.refl (S : Nat → Prop) (w : World) : Upd S w w := ⟨rfl, rfl, rfl, Nat.le_refl _, fun _ _ _ => rfl⟩
theorem Upd.mono {S T : Nat → Prop} {w w' : World} (h : Upd S w w') (hT : ∀ i, i < w.heap.size → S i → T i) : Upd T w w' :=
  ⟨h.os, h.tape, h.output, h.size, fun k hk hn => h.block k hk (fun hs => hn (hT k hk hs))⟩
theorem Upd.trans {S T : Nat → Prop} {a b c : World} (h : Upd S a b) (k : Upd T b c) (hT : ∀ i, i < a.heap.size → T i → S i) : Upd S a c :=
  ⟨k.os.trans h.os, k.tape.trans h.tape, k.output.trans h.output, Nat.le_trans h.size k.size,
    fun i hi hn => (k.block i (Nat.lt_of_lt_of_le hi h.size) (fun ht => hn (hT i hi ht))).trans (h.block i hi hn)⟩
theorem Upd.drew {S : Nat → Prop} {a w : World} (h : Upd S a w) : Upd S a w.drew := ⟨h.os, h.tape, h.output, h.size, h.block⟩
theorem Upd.drewN {S : Nat → Prop} {a w : World} (h : Upd S a w) (n : Nat) : Upd S a (w.drewN n) := ⟨h.os, h.tape, h.output, h.size, h.block⟩
theorem Upd.alloc {S : Nat → Prop} {a w : World} (h : Upd S a w) (o : Obj) : Upd S a (w.alloc o) :=
  h.trans (T := fun _ => False) ⟨rfl, rfl, rfl, by simp, fun k hk _ => Below.heap_alloc _ _ _ hk⟩ (fun _ _ f => f.elim)
theorem Upd.setCell {S : Nat → Prop} {a w : World} (h : Upd S a w) {p : Addr} (hp : p.block < a.heap.size → S p.block) (u : Value) : Upd S a (w.setCell p u) :=
  h.trans (T := fun i => i = p.block) ⟨rfl, rfl, rfl, by simp [World.setCell], fun k _ hn => Below.heap_setCell _ _ _ _ hn⟩ (fun i hi e => e ▸ hp (e ▸ hi))
theorem Upd.of_grown {S : Nat → Prop} {a w w' : World} {row : Option Nat} (h : Upd S a w) (hg : w.grownBy w' row) (hr : ∀ k, row = some k → k < a.heap.size → S k) : Upd S a w' :=
  h.trans (T := fun i => some i = row) ⟨hg.os, hg.tape, hg.output, hg.size, fun k hk hn => hg.block k hk hn⟩ (fun i hi e => hr i e.symm hi)
theorem Upd.below {S : Nat → Prop} {w w' : World} (h : Upd S w w') (hS : ∀ i, i < w.heap.size → ¬ S i) : Below w.heap.size w w' :=
  ⟨h.os, h.tape, h.output, h.size, fun k hk => h.block k hk (hS k hk)⟩
theorem Upd.of_below {w w' : World} {S : Nat → Prop} (h : Below w.heap.size w w') : Upd S w w' :=
  ⟨h.os, h.tape, h.output, h.size, fun k hk _ => h.block k hk⟩
/-- a block that is not of S holds what it held -/
theorem Upd.keep {S : Nat → Prop} {w w' : World} (h : Upd S w w') {b : Nat} {o : Obj} (hb : w.heap[b]? = some o) (hS : ¬ S b) : w'.heap[b]? = some o :=
  (h.block b (Array.getElem?_eq_some_iff.1 hb).1 hS).trans hb
theorem lt_of_heap {w : World} {b : Nat} {o : Obj} (hb : w.heap[b]? = some o) : b < w.heap.size := (Array.getElem?_eq_some_iff.1 hb).1
theorem cell_of_heap {w : World} {b : Nat} {c : Array Value} {t : TypeId} {fr : Nat × Nat} (h : w.heap[b]? = some (.cells c t fr)) (o : Nat) : w.cell? ⟨b, o, none⟩ = c[o]? := by
  simp [World.cell?, h]
theorem frozen_of_heap {w : World} {b : Nat} {c : Array Value} {t : TypeId} (h : w.heap[b]? = some (.cells c t (0, 0))) (o : Nat) (s : Option Nat) : w.frozen? ⟨b, o, s⟩ = false := by
  simp [World.frozen?, h]
theorem heap_setCell {w : World} {b o : Nat} {c : Array Value} {t : TypeId} {fr : Nat × Nat} (h : w.heap[b]? = some (.cells c t fr)) (v : Value) :
    (w.setCell ⟨b, o, none⟩ v).heap[b]? = some (.cells (c.setIfInBounds o v) t fr) := by
  simp [World.setCell, Array.getElem?_modify, h]
theorem heap_alloc {w : World} (o : Obj) : (w.alloc o).heap[w.heap.size]? = some o := heap_alloc_new w o
theorem cell_upd {S : Nat → Prop} {w w' : World} (h : Upd S w w') {b o : Nat} {s : Option Nat} {v : Value} (hc : w.cell? ⟨b, o, s⟩ = some v) (hS : ¬ S b) : w'.cell? ⟨b, o, s⟩ = some v :=
  (World.cell?_of_block (a := ⟨b, o, s⟩) (h.block b (World.block_lt_of_cell? w _ hc) hS)).trans hc

/-- The slice value v has n elements of so many cells each; they read as xs. -/
def RowAt (w : World) (size : Nat) (v : Value) (n : Nat) (xs : List Value) : Prop :=
  xs.length = n * size ∧ ∃ a cap, v = .slice a n cap ∧ n ≤ cap ∧ cap ≤ maxLen ∧ (a = none → cap = 0) ∧
    (xs ≠ [] → ∃ g o, a = some ⟨g, o, none⟩ ∧ ∀ i, i < xs.length → w.cell? ⟨g, o + i, none⟩ = xs[i]?)

theorem RowAt.nil (w : World) (size : Nat) : RowAt w size (.slice none 0 0) 0 [] := ⟨by simp, none, 0, rfl, Nat.le_refl _, Nat.zero_le _, fun _ => rfl, fun h => (h rfl).elim⟩
theorem RowAt.upd {w w' : World} {size n : Nat} {v : Value} {xs : List Value} (h : RowAt w size v n xs) {S : Nat → Prop} (hu : Upd S w w')
    (hS : ∀ g o x, x ∈ xs → w.cell? ⟨g, o, none⟩ = some x → ¬ S g) : RowAt w' size v n xs := by
  obtain ⟨hl, a, c, hv, h1, h2, h3, hc⟩ := h
  refine ⟨hl, a, c, hv, h1, h2, h3, fun hne => ?_⟩
  obtain ⟨g, o, hg, hcell⟩ := hc hne
  refine ⟨g, o, hg, fun i hi => ?_⟩
  have h5 := hcell i hi
  have h6 : xs[i]? = some xs[i] := List.getElem?_eq_getElem hi
  rw [h6] at h5 ⊢
  exact cell_upd hu h5 (hS _ _ _ (List.getElem_mem hi) h5)
theorem RowAt.upd0 {w w' : World} {size n : Nat} {v : Value} {xs : List Value} (h : RowAt w size v n xs) (hu : Upd (fun _ => False) w w') : RowAt w' size v n xs :=
  h.upd hu (fun _ _ _ _ _ f => f)
/-- what the call owns reads as such -/
theorem RowAt.of_own {w : World} {base : Nat} {e : TypeId} {size : Nat} {v : Value} {n : Nat} {xs : List Value} (h : w.ownsRow base e size v n xs) : RowAt w size v n xs := by
  refine ⟨h.1, ?_⟩
  rcases h.2 with ⟨rfl, rfl⟩ | ⟨g, cap, cur, rfl, hb, hg, h1, h2, h3, h4⟩
  · exact ⟨none, 0, rfl, Nat.le_refl _, Nat.zero_le _, fun _ => rfl, fun hne => (hne (List.eq_nil_of_length_eq_zero (by simpa using h.1))).elim⟩
  · refine ⟨some ⟨g, 0, none⟩, cap, rfl, h1, h2, fun e => (by cases e), fun _ => ⟨g, 0, rfl, fun i hi => ?_⟩⟩
    rw [cell_of_heap hg, Nat.zero_add]
    subst h4
    rw [List.getElem?_take, if_pos (by rw [← h.1]; exact hi)]
    simp
theorem RowAt.cells {w : World} {size n g o len cap : Nat} {xs : List Value} (h : RowAt w size (.slice (some ⟨g, o, none⟩) len cap) n xs) :
    len = n ∧ n ≤ cap ∧ ∀ i, i < xs.length → w.cell? ⟨g, o + i, none⟩ = xs[i]? := by
  obtain ⟨hl, a, c, hv, h1, _, _, hc⟩ := h
  simp only [Value.slice.injEq] at hv
  obtain ⟨rfl, rfl, rfl⟩ := hv
  refine ⟨rfl, h1, fun i hi => ?_⟩
  obtain ⟨g', o', hg, hcell⟩ := hc (by intro e; simp [e] at hi)
  simp only [Option.some.injEq, Addr.mk.injEq, and_true] at hg
  obtain ⟨rfl, rfl⟩ := hg
  exact hcell i hi

/-- The slice value v reads as the numbers zs. -/
def IntsAt (k : IntKind) (w : World) (v : Value) (zs : List Int) : Prop := RowAt w 1 v zs.length (zs.map (.int k))
theorem IntsAt.nil (k : IntKind) (w : World) : IntsAt k w (.slice none 0 0) [] := RowAt.nil w 1
theorem IntsAt.upd0 {k : IntKind} {w w' : World} {v : Value} {zs : List Int} (h : IntsAt k w v zs) (hu : Upd (fun _ => False) w w') : IntsAt k w' v zs := RowAt.upd0 h hu
theorem IntsAt.upd {k : IntKind} {w w' : World} {v : Value} {zs : List Int} (h : IntsAt k w v zs) {S : Nat → Prop} (hu : Upd S w w')
    (hS : ∀ g o n, w.cell? ⟨g, o, none⟩ = some (.int k n) → ¬ S g) : IntsAt k w' v zs :=
  RowAt.upd h hu (fun g o x hx hc => by obtain ⟨n, _, rfl⟩ := List.mem_map.1 hx; exact hS g o n hc)
/-- open a reading: nil or not -/
theorem IntsAt.open {k : IntKind} {w : World} {v : Value} {zs : List Int} (h : IntsAt k w v zs) :
    (zs = [] ∧ ∃ a cap, v = .slice a 0 cap ∧ cap ≤ maxLen ∧ (a = none → cap = 0)) ∨
    (zs ≠ [] ∧ ∃ g o cap, v = .slice (some ⟨g, o, none⟩) zs.length cap ∧ zs.length ≤ cap ∧ cap ≤ maxLen ∧ ∀ i, i < zs.length → w.cell? ⟨g, o + i, none⟩ = some (.int k (zs.getD i 0))) := by
  obtain ⟨_, a, cap, rfl, h1, h2, h3, h4⟩ := h
  by_cases hne : zs = []
  · subst hne; exact .inl ⟨rfl, a, cap, rfl, h2, h3⟩
  · obtain ⟨g, o, rfl, hc⟩ := h4 (by simpa using hne)
    refine .inr ⟨hne, g, o, cap, rfl, h1, h2, fun i hi => ?_⟩
    rw [hc i (by simpa using hi)]
    simp [List.getD, List.getElem?_eq_getElem hi]
theorem IntsAt.mk {k : IntKind} {w : World} {g o n cap : Nat} {zs : List Int} (hn : n = zs.length) (h1 : zs.length ≤ cap) (h2 : cap ≤ maxLen)
    (hc : ∀ i, i < zs.length → w.cell? ⟨g, o + i, none⟩ = some (.int k (zs.getD i 0))) : IntsAt k w (.slice (some ⟨g, o, none⟩) n cap) zs := by
  subst hn
  refine ⟨by simp, _, _, rfl, h1, h2, fun e => (by cases e), fun _ => ⟨g, o, rfl, fun i hi => ?_⟩⟩
  have hi' : i < zs.length := by simpa using hi
  rw [hc i hi']
  simp [List.getD, List.getElem?_eq_getElem hi']
theorem IntsAt.mk0 {k : IntKind} {w : World} {a : Option Addr} {cap : Nat} (h2 : cap ≤ maxLen) (h3 : a = none → cap = 0) : IntsAt k w (.slice a 0 cap) [] :=
  ⟨by simp, a, cap, rfl, Nat.zero_le _, h2, h3, fun h => (h rfl).elim⟩
theorem RowAt.slice {w : World} {size n : Nat} {v : Value} {xs : List Value} (h : RowAt w size v n xs) : ∃ a cap, v = .slice a n cap := by
  obtain ⟨_, a, cap, rfl, _⟩ := h; exact ⟨a, cap, rfl⟩
theorem IntsAt.slice {k : IntKind} {w : World} {v : Value} {zs : List Int} (h : IntsAt k w v zs) : ∃ a cap, v = .slice a zs.length cap := RowAt.slice h
theorem IntsAt.of_own {k : IntKind} {w : World} {base : Nat} {e : TypeId} {v : Value} {zs : List Int} (h : w.ownsRow base e 1 v zs.length (zs.map (.int k))) : IntsAt k w v zs := RowAt.of_own h

/-- a slice of integers that came in -/
theorem IntsAt_of_row {k : IntKind} {w : World} {a : Option Addr} {len cap : Nat} {zs : List Int}
    (h : (a = none ∧ len = 0 ∧ cap = 0 ∧ zs = []) ∨ ∃ x, a = some x ∧ len ≤ cap ∧ cap ≤ maxLen ∧ zs.length = cap ∧ (∀ i, i < zs.length → w.cell? (x.add i) = some (.int k (zs.getD i 0))) ∧ ∀ n ∈ zs, (Lit.int k n).wf = true) :
    IntsAt k w (.slice a len cap) (zs.take len) ∧ ∀ n ∈ zs.take len, (Lit.int k n).wf = true := by
  rcases h with ⟨rfl, rfl, rfl, rfl⟩ | ⟨x, rfl, hl, hm, hz, hc, hw⟩
  · exact ⟨IntsAt.nil k w, by simp⟩
  · refine ⟨?_, fun n hn => hw n (List.mem_of_mem_take hn)⟩
    have hlen : (zs.take len).length = len := by simp; omega
    refine ⟨by simp, some x, cap, by rw [hlen], by omega, hm, fun e => (by cases e), fun hne => ?_⟩
    have hpos : 0 < zs.length := by
      rcases Nat.eq_zero_or_pos zs.length with h0 | h0
      · exact absurd (by simp [List.eq_nil_of_length_eq_zero h0]) hne
      · exact h0
    obtain ⟨b, off, spot⟩ := x
    have hspot : spot = none := by simpa [Addr.add] using World.cell?_spot (hc 0 hpos)
    subst hspot
    refine ⟨b, off, rfl, fun i hi => ?_⟩
    simp only [List.length_map, hlen] at hi
    have h5 := hc i (by omega)
    have hadd : (⟨b, off, none⟩ : Addr).add i = ⟨b, off + i, none⟩ := by unfold Addr.add; split <;> simp_all
    rw [hadd] at h5
    rw [h5]
    simp [List.getD, List.getElem?_take, hi, show i < zs.length by omega]
theorem byte_of_wf {n : Int} (h : (Lit.int .u8 n).wf = true) : 0 ≤ n ∧ n < 256 := by
  simp [Lit.wf, IntKind.min, IntKind.max, IntKind.signed, IntKind.bits] at h
  omega
theorem int_of_wf {n : Int} (h : (Lit.int .i64 n).wf = true) : -9223372036854775808 ≤ n ∧ n ≤ 9223372036854775807 := by
  simp [Lit.wf, IntKind.min, IntKind.max, IntKind.signed, IntKind.bits] at h
  omega

/-- append of any readable slice of one-cell elements to a slice of the call's own -/
theorem wpList_append_row {P : Program} {w : World} {ops : Array Oper} {rest : List Oper} {o : Oper} {a : Act} {Q : Exit → Act → World → Prop} (hgd : o.guard = none) (s x : Operand) (t : TypeId)
    (ho : o.op = .call { callee := .builtin .append, args := #[s, x], argTypes := #[t, t] })
    (base : Nat) (e : TypeId) (i : TypeInfo) (z : Value) (size bytes : Nat) (ht : P.underlying t = some (.slice e)) (hi : P.info? e = some i) (hz : i.zero = some z)
    (hsize : i.size = size) (hby : i.bytes = bytes) (hzs : z.cells.size = size) (hsz : 0 < size)
    (v : Value) (n : Nat) (xs : List Value) (hs : a.eval s = v) (hown : w.ownsRow base e size v n xs)
    (vx : Value) (m : Nat) (news : List Value) (hx : a.eval x = vx) (hr : RowAt w size vx m news) (h1 : ∀ u ∈ news, u.oneCell' = true)
    (h63 : n + m ≤ maxLen) (hbytes : (n + m) * bytes ≤ 140737488355328) (hbase : base ≤ w.heap.size)
    (h : ∀ v' w', w'.ownsRow base e size v' (n + m) (xs ++ news) → w.grownBy w' v.ownBlock → wpList P ops Q rest (a.put o.dst v') w') : wpList P ops Q (o :: rest) a w := by
  obtain ⟨hl, ad, cap, rfl, hm, hcap, hnone, hcells⟩ := hr
  cases ad with
  | none =>
    obtain rfl := hnone rfl
    obtain rfl : m = 0 := by omega
    have hnews : news = [] := List.eq_nil_of_length_eq_zero (by simpa using hl)
    subst hnews
    refine wpList_append_own_none hgd s x t ho base e i size ht hi v n xs hs hown hx ?_
    exact h v w (by simpa using hown) (World.grownBy.refl _ _)
  | some ad =>
    refine wpList_append_own w hgd s x t ho base e i z size bytes ht hi hz hsize hby hzs hsz v n xs hs hown ad m cap news hx hl ?_ h1 h63 hbytes hbase (fun v' w' h2 h3 _ => h v' w' h2 h3)
    intro j u hu
    have hj : j < news.length := (List.getElem?_eq_some_iff.1 hu).1
    obtain ⟨g, o', hg, hc⟩ := hcells (by intro e; simp [e] at hj)
    simp only [Option.some.injEq] at hg
    subst hg
    have hadd : (⟨g, o', none⟩ : Addr).add j = ⟨g, o' + j, none⟩ := by unfold Addr.add; split <;> simp_all
    rw [hadd, hc j hj, hu]

theorem RowAt.upd_own {w w' : World} {size n : Nat} {v : Value} {xs : List Value} (h : RowAt w size v n xs) {S : Nat → Prop} (hu : Upd S w w')
    (hS : ∀ g, v.ownBlock = some g → ¬ S g) : RowAt w' size v n xs := by
  obtain ⟨hl, a, c, rfl, h1, h2, h3, hc⟩ := h
  refine ⟨hl, a, c, rfl, h1, h2, h3, fun hne => ?_⟩
  obtain ⟨g, o, rfl, hcell⟩ := hc hne
  refine ⟨g, o, rfl, fun i hi => ?_⟩
  have h5 := hcell i hi
  have h6 : xs[i]? = some xs[i] := List.getElem?_eq_getElem hi
  rw [h6] at h5 ⊢
  exact cell_upd hu h5 (hS g rfl)
theorem IntsAt_take {k : IntKind} {w : World} {a : Option Addr} {len cap : Nat} {zs : List Int} (h : IntsAt k w (.slice a len cap) zs) (m : Nat) (hm : m ≤ len) :
    IntsAt k w (.slice a m cap) (zs.take m) := by
  obtain ⟨_, a', c', hv, h1, h2, h3, h4⟩ := h
  simp only [Value.slice.injEq] at hv
  obtain ⟨rfl, rfl, rfl⟩ := hv
  refine ⟨by simp, a, cap, ?_, ?_, h2, h3, ?_⟩
  · rw [List.length_take, Nat.min_eq_left hm]
  · rw [List.length_take, Nat.min_eq_left hm]; omega
  · intro hne
    obtain ⟨g, o, hg, hc⟩ := h4 (by intro e; apply hne; simpa using .inr (by simpa using e))
    refine ⟨g, o, hg, fun i hi => ?_⟩
    simp only [List.length_map, List.length_take] at hi
    rw [hc i (by simp; omega)]
    simp only [List.getElem?_map, List.getElem?_take]
    rw [if_pos (by omega)]
theorem ints_alloc {w : World} {k : IntKind} {t : TypeId} (zs : List Int) (h : zs.length ≤ 1000000) : IntsAt k (w.alloc (.cells (zs.map (.int k)).toArray t)) (.slice (some ⟨w.heap.size, 0, none⟩) zs.length zs.length) zs := by
  refine IntsAt.mk rfl (Nat.le_refl _) (by unfold maxLen; omega) (fun i hi => ?_)
  rw [cell_of_heap (heap_alloc _)]
  simp [List.getD, hi]
theorem convert_ints {P : Program} {w : World} {v : Value} {zs : List Int} (h : IntsAt .u8 w v zs) (src dst e : TypeId) (hs : P.underlying src = some (.slice e)) (he : P.underlying e = some (.int .u8)) (hd : P.underlying dst = some .string) :
    (convert src dst v).run P w = .ok (.string (strOfNums zs)) w := by
  rcases IntsAt.open h with ⟨rfl, a, cap, rfl, _, _⟩ | ⟨_, g, o, cap, rfl, _, _, hc⟩
  · cases a with
    | none => rw [run_convert_bytes_nil w src e hs he 0 cap dst hd]; rfl
    | some a =>
      rw [run_convert_bytes_string w src dst e _ 0 cap hs he hd, run_bytesToString w a 0 cap [] (by simp [loadCells, loadCellsFrom])]
      rfl
  · exact run_convert_bytes_arg w src e hs he g o zs.length cap zs rfl hc dst hd
/-- what a law says in the end: this Bool, and nothing that was there has turned -/
def Fresh (b : Bool) (w : World) (e : Ending) (w' : World) : Prop := e = .returned (.bool b) ∧ Upd (fun _ => False) w w'

/-- The slice value v reads as these strings. -/
def StrsAt (w : World) (v : Value) (ss : List ByteArray) : Prop := RowAt w 1 v ss.length (ss.map .string)
theorem StrsAt.nil (w : World) : StrsAt w (.slice none 0 0) [] := RowAt.nil w 1
theorem StrsAt.upd0 {w w' : World} {v : Value} {ss : List ByteArray} (h : StrsAt w v ss) (hu : Upd (fun _ => False) w w') : StrsAt w' v ss := RowAt.upd0 h hu
theorem StrsAt.slice {w : World} {v : Value} {ss : List ByteArray} (h : StrsAt w v ss) : ∃ a cap, v = .slice a ss.length cap := RowAt.slice h
theorem StrsAt.bound {w : World} {v : Value} {ss : List ByteArray} (h : StrsAt w v ss) : ss.length ≤ maxLen := by
  obtain ⟨_, a, c, _, h1, h2, _⟩ := h; omega
theorem StrsAt.cell {w : World} {a : Option Addr} {n cap : Nat} {ss : List ByteArray} (h : StrsAt w (.slice a n cap) ss) {i : Nat} (hi : i < ss.length) :
    ∃ g o, a = some ⟨g, o, none⟩ ∧ w.cell? ⟨g, o + i, none⟩ = some (.string ss[i]) := by
  obtain ⟨_, a', c', hv, _, _, _, hc⟩ := h
  simp only [Value.slice.injEq] at hv
  obtain ⟨rfl, rfl, rfl⟩ := hv
  obtain ⟨g, o, hg, hcell⟩ := hc (by intro e; simp at e; simp [e] at hi)
  refine ⟨g, o, hg, ?_⟩
  rw [hcell i (by simpa using hi)]
  simp [List.getElem?_eq_getElem hi]
theorem IntsAt.cell {k : IntKind} {w : World} {a : Option Addr} {n cap : Nat} {zs : List Int} (h : IntsAt k w (.slice a n cap) zs) {i : Nat} (hi : i < zs.length) :
    ∃ g o, a = some ⟨g, o, none⟩ ∧ w.cell? ⟨g, o + i, none⟩ = some (.int k zs[i]) := by
  obtain ⟨_, a', c', hv, _, _, _, hc⟩ := h
  simp only [Value.slice.injEq] at hv
  obtain ⟨rfl, rfl, rfl⟩ := hv
  obtain ⟨g, o, hg, hcell⟩ := hc (by intro e; simp at e; simp [e] at hi)
  refine ⟨g, o, hg, ?_⟩
  rw [hcell i (by simpa using hi)]
  simp [List.getElem?_eq_getElem hi]
theorem StrsAt.of_own {w : World} {base : Nat} {e : TypeId} {v : Value} {ss : List ByteArray} (h : w.ownsRow base e 1 v ss.length (ss.map .string)) : StrsAt w v ss := RowAt.of_own h
theorem strs_alloc {w : World} {t : TypeId} (ss : List ByteArray) (h : ss.length ≤ 1000000) : StrsAt (w.alloc (.cells (ss.map .string).toArray t)) (.slice (some ⟨w.heap.size, 0, none⟩) ss.length ss.length) ss := by
  refine ⟨by simp, some ⟨w.heap.size, 0, none⟩, ss.length, rfl, Nat.le_refl _, by unfold maxLen; omega, fun e => (by cases e), fun _ => ⟨_, _, rfl, fun i hi => ?_⟩⟩
  rw [cell_of_heap (heap_alloc _), Nat.zero_add]
  simp
end Acre
end Go
