/- What BalanceKnown's walk leans on: Nodes and Pick at the chapter's other loads. -/
import Derived.Test.YtkkickalleelkaaV
namespace Go.Proofs.Ytkkickalleelkaa
open Go.RowKit Go.Acre
theorem out_cell {w : World} {b : Nat} {acc : List CX} (h : w.heap[b]? = some (.cells (outCells acc) 28 (0, 0))) {j : Nat} {v : Value} (hc : w.cell? ⟨b, j, none⟩ = some v) : ∃ p : CX, v = cv p := by
  rw [cell_of_heap h j] at hc
  unfold outCells at hc
  simp only [List.getElem?_toArray, List.getElem?_map] at hc
  cases hj : acc[j]? with
  | none => rw [hj] at hc; cases hc
  | some p => rw [hj] at hc; simp only [Option.map_some, Option.some.injEq] at hc; exact ⟨p, hc.symm⟩
/-- a store into the loads leaves the locs -/
theorem LocsAt.upd_b {w w' : World} {a : Option Addr} {n b : Nat} {ls : List Lo} {acc : List CX} (h : LocsAt w a n ls) (hb : w.heap[b]? = some (.cells (outCells acc) 28 (0, 0))) (hu : Upd (fun i => i = b) w w') : LocsAt w' a n ls :=
  ⟨h.1, fun i hi => by
    obtain ⟨g, o, v, e, c0, c1, c2, c3, c4, hl⟩ := h.2 i hi
    have hg : ¬ g = b := by
      rintro rfl
      obtain ⟨p, hp⟩ := out_cell hb c0
      cases hp
    refine ⟨g, o, v, e, cell_upd hu c0 hg, cell_upd hu c1 hg, cell_upd hu c2 hg, cell_upd hu c3 hg, cell_upd hu c4 hg, ⟨hl.ints.upd hu (fun g' o' n' hc e => ?_), hl.len, hl.wf, hl.gwf⟩⟩
    subst e
    obtain ⟨p, hp⟩ := out_cell hb hc
    cases hp⟩
theorem LocsAt.at {w : World} {a : Nat} {n : Nat} {ls : List Lo} (h : LocsAt w (some ⟨a, 0, none⟩) n ls) {i : Nat} (hi : i < ls.length) : LocsAt w (some ⟨a, i * 5, none⟩) 1 [ls[i]] :=
  ⟨rfl, fun j hj => by
    obtain ⟨g, o, v, e, c0, c1, c2, c3, c4, hl⟩ := h.2 i hi
    simp only [Option.some.injEq, Addr.mk.injEq, and_true] at e
    obtain ⟨rfl, rfl⟩ := e
    simp only [List.length_singleton] at hj
    obtain rfl : j = 0 := by omega
    simp only [Nat.zero_add] at c0 c1 c2 c3 c4
    simp only [Nat.zero_mul, Nat.add_zero, List.getElem_cons_zero]
    exact ⟨a, i * 5, v, rfl, c0, c1, c2, c3, c4, hl⟩⟩
theorem CxAt.at {w : World} {b : Nat} {qs : List CX} (h : w.heap[b]? = some (.cells (outCells qs) 28 (0, 0))) {i : Nat} (hi : i < qs.length) : CxAt w (some ⟨b, i, none⟩) 1 [qs[i]] :=
  ⟨rfl, fun j hj => by
    simp only [List.length_singleton] at hj
    obtain rfl : j = 0 := by omega
    refine ⟨b, i, rfl, ?_⟩
    rw [cell_of_heap h (i + 0)]
    simp [outCells, hi]⟩
def f9 : Nat := 4621256167635550208
def qsA : List CX := [(f9, 0), (4611686018427387904, 0), (4607182418800017408, 0)]
def qsB : List CX := [(f9, 0), (4611686018427387904, 0), (f9, 0)]
def bads : List CX := [(4602678819172646912, 0), (13830554455654793216, 0), (4787326403894841344, 0), (0, 4602678819172646912), (0, 13830554455654793216), (4607182418800017408, 4787326403894841344)]
theorem may_f (q : CX) (h : mayC q = false) (h1 : (geZ q.1 && leT q.1 && (floatToIntVal .f64 q.1 .u64).isNone) = false) (h2 : (geZ q.2 && leT q.2 && (floatToIntVal .f64 q.2 .u64).isNone) = false) : MayIs q.1 q.2 false := by
  have := may_q q false h h1 h2
  rwa [h] at this
theorem bad_may : ∀ q ∈ bads, mayC q = false ∧ MayIs q.1 q.2 false := by
  have : ∀ q ∈ bads, mayC q = false ∧ (geZ q.1 && leT q.1 && (floatToIntVal .f64 q.1 .u64).isNone) = false ∧ (geZ q.2 && leT q.2 && (floatToIntVal .f64 q.2 .u64).isNone) = false := by decide +kernel
  intro q hq
  obtain ⟨h, h1, h2⟩ := this q hq
  exact ⟨h, may_f q h h1 h2⟩
theorem may_sure (qs : List CX) (h : ∀ q ∈ qs, mayC q = true ∧ (geZ q.1 && leT q.1 && (floatToIntVal .f64 q.1 .u64).isNone) = false ∧ (geZ q.2 && leT q.2 && (floatToIntVal .f64 q.2 .u64).isNone) = false) : ∀ q ∈ qs, MayIs q.1 q.2 (mayC q) := by
  intro q hq
  obtain ⟨h0, h1, h2⟩ := h q hq
  exact may_q q true h0 h1 h2
theorem mayA : ∀ q ∈ qsA, MayIs q.1 q.2 (mayC q) := may_sure _ (by decide +kernel)
theorem mayB : ∀ q ∈ qsB, MayIs q.1 q.2 (mayC q) := may_sure _ (by decide +kernel)
def accA : List CX := [(4622382067542392832, 0), (f9, 0), (4607182418800017408, 0)]
def accB : List CX := [(4622382067542392832, 0), (f9, 0), (f9, 0)]
theorem nodesA : nodesF 3 (List.replicate 3 (0, 0)) (ls3.zip qsA) = some (some accA) := by decide +kernel
theorem nodesB : nodesF 3 (List.replicate 3 (0, 0)) (ls3.zip qsB) = some (some accB) := by decide +kernel
def waA : List Nat := [4622382067542392832, f9, 4607182418800017408]
def waB : List Nat := [4622382067542392832, f9, f9]
def wqA : List Nat := [f9, 4611686018427387904, 4607182418800017408]
def wqB : List Nat := [f9, 4611686018427387904, f9]
theorem pickA {w : World} {a b : Option Addr} {c d : Nat} (hl : LocsAt w a 3 ls3) (hq : CxAt w b 3 qsA) : Calls Try.prog 15 #[.int .i64 3, .slice a 3 c, .slice b 3 d] w (PickPost (some (3, 2, 0)) w) :=
  pick_any (N := 3) (heavy := 0) (light := 2) (room := 4621819117588971520) (best := 0) (wa := waA) (wq := wqA) hl hq (by omega) mayA (by omega) nodesA rfl (sums_of rfl (by decide +kernel)) rfl (sums_of rfl (by decide +kernel)) (by decide +kernel) (by decide +kernel) (by omega) (by omega) (by decide +kernel) (by decide +kernel) (by omega) rfl
theorem pickB {w : World} {a b : Option Addr} {c d : Nat} (hl : LocsAt w a 3 ls3) (hq : CxAt w b 3 qsB) : Calls Try.prog 15 #[.int .i64 3, .slice a 3 c, .slice b 3 d] w (PickPost none w) :=
  pick_any (N := 3) (heavy := 0) (light := 1) (room := 4611686018427387904) (best := -1) (wa := waB) (wq := wqB) hl hq (by omega) mayB (by omega) nodesB rfl (sums_of rfl (by decide +kernel)) rfl (sums_of rfl (by decide +kernel)) (by decide +kernel) (by decide +kernel) (by omega) (by omega) (by decide +kernel) (by decide +kernel) (by omega) rfl
theorem nodes_two {w : World} {a b : Option Addr} {c d : Nat} (hl : LocsAt w a 3 ls3) (hq : CxAt w b 3 qsB) : Calls Try.prog 16 #[.int .i64 2, .slice a 3 c, .slice b 3 d] w (NodesPost 2 none w) :=
  nodes_any hl hq (by omega) mayB (N := 2) (by omega) (by decide +kernel)
theorem nodes_void (w : World) : Calls Try.prog 16 #[.int .i64 5, .slice none 0 0, .slice none 0 0] w (NodesPost 5 (some (List.replicate 5 (0, 0))) w) :=
  nodes_any (ls := []) (qs := []) ⟨rfl, fun i hi => by cases hi⟩ ⟨rfl, fun i hi => by cases hi⟩ (Nat.zero_le _) (fun q hq => by cases hq) (N := 5) (by omega) rfl
theorem nodes_badq {w : World} {a b : Option Addr} {c d : Nat} {q : CX} (hl : LocsAt w a 1 [⟨4, [0]⟩]) (hq : CxAt w b 1 [q]) (hb : mayC q = false) (hm : MayIs q.1 q.2 false) : Calls Try.prog 16 #[.int .i64 3, .slice a 1 c, .slice b 1 d] w (NodesPost 3 none w) :=
  nodes_any hl hq (by omega) (fun p hp => by rw [List.mem_singleton] at hp; subst hp; rw [hb]; exact hm) (N := 3) (by omega) (by
    show (if (hereB 3 ⟨4, [0]⟩ && mayC q) = true then _ else some none) = some none
    rw [hb, Bool.and_false]
    rfl)
def qTop : List CX := [(4787326403894837248, 4787326403894837248)]
def accTop : List CX := [(4787326403894837248, 4787326403894837248), (0, 0), (0, 0)]
theorem mayTop : ∀ q ∈ qTop, MayIs q.1 q.2 (mayC q) := may_sure _ (by decide +kernel)
theorem nodes_top {w : World} {a b : Option Addr} {c d : Nat} (hl : LocsAt w a 1 [⟨4, [0]⟩]) (hq : CxAt w b 1 qTop) : Calls Try.prog 16 #[.int .i64 3, .slice a 1 c, .slice b 1 d] w (NodesPost 3 (some accTop) w) :=
  nodes_any hl hq (by omega) mayTop (N := 3) (by omega) (by decide +kernel)
theorem may_six : MayIs 4619567317775286272 0 true := may_of _ _ _ (by kernel_rfl) (by kernel_rfl) (by kernel_rfl)
theorem unlike_bad {q : CX} (hm : MayIs q.1 q.2 false) (w : World) : Calls Try.prog 17 #[.complex .f64 q.1 q.2, .complex .f64 4619567317775286272 0] w (fun e w' => e = .returned (.int .u64 0) ∧ w = w') := unlike_no hm may_six rfl w
theorem unlike_bad2 {q : CX} (hm : MayIs q.1 q.2 false) (w : World) : Calls Try.prog 17 #[.complex .f64 4619567317775286272 0, .complex .f64 q.1 q.2] w (fun e w' => e = .returned (.int .u64 0) ∧ w = w') := unlike_no may_six hm rfl w
theorem mid_a : midR ⟨#[]⟩ (dist (rowsOf ⟨#[]⟩ ⟨#[]⟩ [ceR sA])) = (⟨#[]⟩, false) := by
  rw [dist_eq]
  decide +kernel
theorem mid_ab : midR sB (dist (rowsOf sB ⟨#[]⟩ [ceR sA, ceR sB])) = (⟨#[]⟩, false) := by
  rw [dist_eq]
  decide +kernel
theorem load_none (asked : Int) (ha : -9223372036854775808 ≤ asked ∧ asked ≤ 9223372036854775807) (w : World) : Calls Try.prog 9 #[.slice none 0 0, .int .i64 asked] w (PureUpd (cxOf (loadP [] asked)) w) :=
  load_any (l := []) (RowAt.nil w 5) (fun f hf => by cases hf) (by omega) asked ha
theorem load_low : cxOf (loadP [] (-5)) = .complex .f64 0 0 := by kernel_rfl
theorem load_high : cxOf (loadP [] 4611686018427387904) = .complex .f64 0 4787326403894837248 := by kernel_rfl
end Go.Proofs.Ytkkickalleelkaa
