/- The walk of Check. -/
import Derived.Test.YtgkegfgdpekehaaGreatMn
import Derived.Sort.CutIn
import Derived.Sort.MapsRangeIn
namespace Go.Proofs.YtgkegfgdpekehaaGreat
open Go.RowKit Go.Shelf Go.Acre Go.Acre.Dk Go.Maps
attribute [local go_sem] Oper.semAt_some
theorem keys_ids (pre : List XF) : ∀ y ∈ pre.map idLit, WideAt.IsKeyLit y := fun y hy => by obtain ⟨_, _, rfl⟩ := List.mem_map.1 hy; trivial
theorem has_ids (pre : List XF) (x : XF) : Maps.has (idsD pre) (idLit x) = !newB (vals pre) x.1 := by
  unfold idsD
  rw [Maps.has_setOf _ _ _ (keys_ids pre), List.any_map]
  unfold newB vals
  rw [List.all_map, Bool.eq_iff_iff]
  simp [idLit, Lit.sameKey]
  constructor
  · rintro ⟨a, b, h1, h2⟩
    exact ⟨a, b, h1, by omega⟩
  · rintro ⟨a, b, h1, h2⟩
    exact ⟨a, b, h1, by omega⟩
theorem ids_snoc (pre : List XF) (x : XF) : (idsD pre).put (idLit x) (.agg []) = idsD (pre ++ [x]) := by
  unfold idsD
  rw [List.map_append, List.map_singleton, setOf_snoc]
theorem size_ids (pre : List XF) (x : XF) (hs : Maps.size (idsD pre) = pre.length) (hn : newB (vals pre) x.1 = true) : Maps.size (idsD (pre ++ [x])) = pre.length + 1 := by
  rw [← ids_snoc, size_put, has_ids, hn]
  · simp [hs]
  · exact tidy_setOf _ _ (keys_ids pre)
theorem wf_id (x : XF) : (Lit.int .u64 (x.1.2.id : Nat)).wf = true := WalkArith.wf_u64 (by have := x.2; omega)
theorem get_alloc (w : World) (o : Obj) (k : Nat) : (w.alloc o).heap[k]? = if k = w.heap.size then some o else w.heap[k]? := by
  by_cases h : k = w.heap.size
  · rw [if_pos h, h]
    exact heap_alloc_new w o
  · rw [if_neg h]
    by_cases h2 : k < w.heap.size
    · exact Below.heap_alloc w o k h2
    · rw [Array.getElem?_eq_none (by rw [World.size_alloc]; omega), Array.getElem?_eq_none (by omega)]
theorem w0_facts (w : World) (o0 o1 o2 o3 o4 o5 o6 o7 : Obj) : ∃ W0, ((((((((w.alloc o0).alloc o1).alloc o2).alloc o3).alloc o4).alloc o5).alloc o6).alloc o7) = W0 ∧ W0.heap.size = w.heap.size + 8 ∧ Below w.heap.size w W0 ∧
    W0.heap[w.heap.size]? = some o0 ∧ W0.heap[w.heap.size + 1]? = some o1 ∧ W0.heap[w.heap.size + 1 + 1]? = some o2 ∧ W0.heap[w.heap.size + 1 + 1 + 1]? = some o3 ∧ W0.heap[w.heap.size + 1 + 1 + 1 + 1]? = some o4 ∧ W0.heap[w.heap.size + 1 + 1 + 1 + 1 + 1]? = some o5 ∧ W0.heap[w.heap.size + 1 + 1 + 1 + 1 + 1 + 1]? = some o6 ∧ W0.heap[w.heap.size + 1 + 1 + 1 + 1 + 1 + 1 + 1]? = some o7 := by
  refine ⟨_, rfl, by simp, ?_, ?_⟩
  · exact ((((((((Below.refl _ w).alloc (by simp) _).alloc (by simp; try omega) _).alloc (by simp; try omega) _).alloc (by simp; try omega) _).alloc (by simp; try omega) _).alloc (by simp; try omega) _).alloc (by simp; try omega) _).alloc (by simp; try omega) _
  · refine ⟨?_, ?_, ?_, ?_, ?_, ?_, ?_, ?_⟩ <;> simp only [get_alloc, World.size_alloc] <;> (repeat (first | rw [if_neg (by omega)] | rw [if_pos (by omega)])) <;> rfl
theorem zero109 (w : World) : (zeroValue 120).run Tryz.prog w = .ok (.agg #[]) w := by kernel_rfl
theorem key42 (x : XF) : keyOf Tryz.prog 25 (.int .u64 (x.1.2.id : Nat)) = some (idLit x) := Maps.keyOf_int_mk Tryz.underlying25 (wf_id x)
theorem xs_of : ∀ (L : List (Nat × PF)), (∀ y ∈ L, y.2.id < 18446744073709551616) → ∃ X : List XF, X.map (·.1) = L
  | [], _ => ⟨[], rfl⟩
  | y :: r, h => by
    obtain ⟨X, hX⟩ := xs_of r (fun z hz => h z (by simp [hz]))
    exact ⟨⟨y, h y (by simp)⟩ :: X, by rw [List.map_cons, hX]⟩
/-- behind the level's change -/
structure CM (w : World) (z nx lg : Nat) (v : Value) (pre : List XF) (x : XF) (Bx : Nat) (W0 W : World) : Prop where
  res : W.heap[z + 1]? = some (.cells #[.int .i64 0] 36 (0, 0))
  map : W.ownsMap Tryz.prog 25 unitElem (z + 1 + 1) pre.length (idsD pre)
  tab : W.heap[z + 1 + 1 + 1]? = some (.cells #[.map (some (z + 1 + 1))] 116 (0, 0))
  lvl : W.heap[z + 1 + 1 + 1 + 1]? = some (.cells #[.int .i64 (x.1.1 : Nat)] 3 (0, 0))
  lst : W.heap[z + 1 + 1 + 1 + 1 + 1]? = some (.cells #[.string (lastX pre)] 9 (0, 0))
  fst : W.heap[z + 1 + 1 + 1 + 1 + 1 + 1]? = some (.cells #[.bool (pre.isEmpty || decide (lvlX pre ≠ x.1.1))] 4 (0, 0))
  box : W.heap[z]? = some (.cells #[.int .u64 (nx : Nat), .int .u64 (lg : Nat), v] 28 (0, 0))
  cap : W.heap[z + 1 + 1 + 1 + 1 + 1 + 1 + 1]? = some (.cells #[.int .u64 (nx : Nat), .int .u64 (lg : Nat), v] 28 (0, 0))
  siz : Maps.size (idsD pre) = pre.length
  ok : allOk nx [] (vals pre) = true
  bel : Below z w W
  file : W.heap[Bx]? = some (.cells #[.int .u64 (x.1.2.id : Nat), .string x.1.2.low, .string x.1.2.high, .int .i64 x.1.2.cells] 72 (0, 0))
  kp : KeepsFrom (z + 1 + 1 + 1 + 1 + 1 + 1 + 1 + 1) W0 W
  kb : Below z W0 W
theorem KeepsFrom.of_upd0 {B : Nat} {a b : World} (h : Upd (fun _ => False) a b) : KeepsFrom B a b := ⟨h.size, fun k o _ hk _ => h.keep hk (fun f => f)⟩
theorem CM.upd0 {w : World} {z nx lg : Nat} {v : Value} {pre : List XF} {x : XF} {Bx : Nat} {W0 W W' : World} (h : CM w z nx lg v pre x Bx W0 W) (hu : Upd (fun _ => False) W W') (hz : w.heap.size = z) : CM w z nx lg v pre x Bx W0 W' := by
  have hb : Below z W W' := (hu.below (fun _ _ f => f)).mono (by have := h.bel.size; omega)
  exact ⟨hu.keep h.res (fun f => f), by
    obtain ⟨es, clock, hb, F, hs, hD⟩ := h.map
    exact ⟨es, clock, hu.keep hb (fun f => f), F, hs, hD⟩, hu.keep h.tab (fun f => f), hu.keep h.lvl (fun f => f), hu.keep h.lst (fun f => f), hu.keep h.fst (fun f => f), hu.keep h.box (fun f => f), hu.keep h.cap (fun f => f), h.siz, h.ok, h.bel.trans hb, hu.keep h.file (fun f => f), h.kp.trans (KeepsFrom.of_upd0 hu), h.kb.trans hb⟩
theorem allOk_len {nx : Nat} {pre : List XF} (h : allOk nx [] (vals pre) = true) : pre.length ≤ 1024 := by
  rw [allOk_eq (by simp)] at h
  simp only [Bool.and_eq_true, decide_eq_true_eq] at h
  simpa using h.1
theorem stepB_eq (pre : List XF) (x : XF) : stepB (vals pre) x.1 = (decide (x.1.1 = 0) || (pre.isEmpty || decide (lvlX pre ≠ x.1.1)) || bf (lastX pre) x.1.2.low) := by
  unfold stepB vals lvlX lastX
  rw [List.getLast?_map]
  cases pre with
  | nil => simp
  | cons y r =>
    cases h : (y :: r).getLast? with
    | none => simp at h
    | some q => simp
theorem okAt_eq (nx : Nat) (pre : List XF) (x : XF) : okAt nx (vals pre) x.1 = (newB (vals pre) x.1 && decide (pre.length ≠ 1024) && rightB x.1.2 nx && (decide (x.1.1 = 0) || (pre.isEmpty || decide (lvlX pre ≠ x.1.1)) || bf (lastX pre) x.1.2.low)) := by
  unfold okAt
  rw [stepB_eq, show (vals pre).length = pre.length from List.length_map ..]
theorem CM.next {w : World} {z nx lg : Nat} {v : Value} {pre : List XF} {x : XF} {Bx : Nat} {W0 W w1 : World} (h : CM w z nx lg v pre x Bx W0 W) (hz : w.heap.size = z) {B : Nat} (hB : B = z + 8) (hn : newB (vals pre) x.1 = true)
    (hm : w1.ownsMap Tryz.prog 25 unitElem (z + 1 + 1) (pre.length + 1) ((idsD pre).put (idLit x) (.agg []))) (hg : W.grownBy w1 (some (z + 1 + 1))) (hok : okAt nx (vals pre) x.1 = true) :
    KeepsFrom B W0 ((w1.setCell ⟨z + 1 + 1 + 1 + 1 + 1, 0, none⟩ (.string x.1.2.high)).setCell ⟨z + 1 + 1 + 1 + 1 + 1 + 1, 0, none⟩ (.bool false)) ∧
      Below w.heap.size W0 ((w1.setCell ⟨z + 1 + 1 + 1 + 1 + 1, 0, none⟩ (.string x.1.2.high)).setCell ⟨z + 1 + 1 + 1 + 1 + 1 + 1, 0, none⟩ (.bool false)) ∧
      CI w z nx lg v (pre ++ [x]) ((w1.setCell ⟨z + 1 + 1 + 1 + 1 + 1, 0, none⟩ (.string x.1.2.high)).setCell ⟨z + 1 + 1 + 1 + 1 + 1 + 1, 0, none⟩ (.bool false)) := by
  subst hB
  rw [hz]
  have hu1 : Upd (fun i => i = z + 1 + 1) W w1 := (Upd.refl _ W).of_grown hg (fun k e _ => by cases e; rfl)
  have hu2 : Upd (fun i => i = z + 1 + 1 + 1 + 1 + 1) w1 (w1.setCell ⟨z + 1 + 1 + 1 + 1 + 1, 0, none⟩ (.string x.1.2.high)) := upd1
  have hu3 : Upd (fun i => i = z + 1 + 1 + 1 + 1 + 1 + 1) (w1.setCell ⟨z + 1 + 1 + 1 + 1 + 1, 0, none⟩ (.string x.1.2.high)) ((w1.setCell ⟨z + 1 + 1 + 1 + 1 + 1, 0, none⟩ (.string x.1.2.high)).setCell ⟨z + 1 + 1 + 1 + 1 + 1 + 1, 0, none⟩ (.bool false)) := upd1
  have hk : ∀ {k : Nat} {o : Obj}, W.heap[k]? = some o → k ≠ z + 1 + 1 → k ≠ z + 1 + 1 + 1 + 1 + 1 → k ≠ z + 1 + 1 + 1 + 1 + 1 + 1 → ((w1.setCell ⟨z + 1 + 1 + 1 + 1 + 1, 0, none⟩ (.string x.1.2.high)).setCell ⟨z + 1 + 1 + 1 + 1 + 1 + 1, 0, none⟩ (.bool false)).heap[k]? = some o := fun ho a b c => hu3.keep (hu2.keep (hu1.keep ho a) b) c
  have hbl : Below z W ((w1.setCell ⟨z + 1 + 1 + 1 + 1 + 1, 0, none⟩ (.string x.1.2.high)).setCell ⟨z + 1 + 1 + 1 + 1 + 1 + 1, 0, none⟩ (.bool false)) := by
    have hzs : z ≤ W.heap.size := by have := h.bel.size; omega
    exact (((Below.refl z W).grown hg hzs (fun k e => by cases e; omega)).setCell (p := ⟨z + 1 + 1 + 1 + 1 + 1, 0, none⟩) (show z ≤ z + 1 + 1 + 1 + 1 + 1 by omega) _).setCell (p := ⟨z + 1 + 1 + 1 + 1 + 1 + 1, 0, none⟩) (show z ≤ z + 1 + 1 + 1 + 1 + 1 + 1 by omega) _
  have hlast : (pre ++ [x]).getLast? = some x := by simp
  refine ⟨h.kp.trans (((KeepsFrom.of_grownBy hg (fun j e => by cases e; omega)).trans ((KeepsOthers.setCell _ _ _).from _)).trans ((KeepsOthers.setCell _ _ _).from _)), h.kb.trans hbl, ?_⟩
  refine ⟨hk h.res (by omega) (by omega) (by omega), ?_, hk h.tab (by omega) (by omega) (by omega), ?_, ?_, ?_, hk h.box (by omega) (by omega) (by omega), hk h.cap (by omega) (by omega) (by omega), ?_, ?_, h.bel.trans hbl⟩
  · obtain ⟨es, clock, hb, F, hs, hD⟩ := hm
    rw [ids_snoc] at hD
    exact ⟨es, clock, hu3.keep (hu2.keep hb (by omega)) (by omega), F, by simpa using hs, hD⟩
  · unfold lvlX
    rw [hlast]
    exact hk h.lvl (by omega) (by omega) (by omega)
  · unfold lastX
    rw [hlast]
    exact hu3.keep (cells1 (hu1.keep h.lst (by omega))) (by omega)
  · rw [show (pre ++ [x]).isEmpty = false from by simp]
    exact cells1 (hu2.keep (hu1.keep h.fst (by omega)) (by omega))
  · rw [size_ids pre x h.siz hn, List.length_append]
    rfl
  · unfold vals
    rw [List.map_append, List.map_singleton, allOk_snoc, Bool.and_eq_true]
    exact ⟨h.ok, hok⟩
theorem CM.bad {w : World} {z nx lg : Nat} {v : Value} {pre : List XF} {x : XF} {Bx : Nat} {W0 W : World} (h : CM w z nx lg v pre x Bx W0 W) (hz : w.heap.size = z) {B : Nat} (hB : B = z + 8) (hok : okAt nx (vals pre) x.1 = false) :
    KeepsFrom B W0 (W.setCell ⟨z + 1, 0, none⟩ (.int .i64 2)) ∧ Code.ret = Code.ret ∧ (W.setCell ⟨z + 1, 0, none⟩ (.int .i64 2)).heap[z + 1]? = some (.cells #[.int .i64 2] 36 (0, 0)) ∧ allOk nx [] (vals (pre ++ [x])) = false ∧ Below z w (W.setCell ⟨z + 1, 0, none⟩ (.int .i64 2)) := by
  subst hB
  refine ⟨h.kp.trans ((KeepsOthers.setCell _ _ _).from _), rfl, cells1 h.res, ?_, h.bel.setCell (p := ⟨z + 1, 0, none⟩) (show z ≤ z + 1 by omega) _⟩
  unfold vals
  rw [List.map_append, List.map_singleton, allOk_snoc]
  show (_ && okAt nx (vals pre) x.1) = false
  rw [hok, Bool.and_false]
theorem own_bel {z : Nat} {w A B : World} {row : Option Nat} (hz : w.heap.size = z) (hbl : Below z w A) (hg : A.grownBy B row) (hr : ∀ r, row = some r → z ≤ r) : Below z w B :=
  ⟨hg.os.trans hbl.os, hg.tape.trans hbl.tape, hg.output.trans hbl.output, Nat.le_trans hbl.size hg.size, fun k hk2 => by
    have h1 := hbl.block k hk2
    have hlt : k < A.heap.size := by have := hbl.size; omega
    exact (hg.block k hlt (fun e => by have := hr _ e.symm; omega)).trans h1⟩
theorem CI.turn {w : World} {z nx lg : Nat} {v : Value} {pre : List XF} {x : XF} {Bx : Nat} {W : World} (h : CI w z nx lg v pre W) (hz : w.heap.size = z)
    (hbx : W.heap[Bx]? = some (.cells #[.int .u64 (x.1.2.id : Nat), .string x.1.2.low, .string x.1.2.high, .int .i64 x.1.2.cells] 72 (0, 0))) (he : ¬ x.1.1 = lvlX pre) (hBx : z + 1 + 1 + 1 + 1 + 1 + 1 + 1 < Bx) :
    CM w z nx lg v pre x Bx W ((W.setCell ⟨z + 1 + 1 + 1 + 1, 0, none⟩ (.int .i64 (x.1.1 : Nat))).setCell ⟨z + 1 + 1 + 1 + 1 + 1 + 1, 0, none⟩ (.bool true)) := by
  have hu2 : Upd (fun i => i = z + 1 + 1 + 1 + 1) W (W.setCell ⟨z + 1 + 1 + 1 + 1, 0, none⟩ (.int .i64 (x.1.1 : Nat))) := upd1
  have hu3 : Upd (fun i => i = z + 1 + 1 + 1 + 1 + 1 + 1) (W.setCell ⟨z + 1 + 1 + 1 + 1, 0, none⟩ (.int .i64 (x.1.1 : Nat))) ((W.setCell ⟨z + 1 + 1 + 1 + 1, 0, none⟩ (.int .i64 (x.1.1 : Nat))).setCell ⟨z + 1 + 1 + 1 + 1 + 1 + 1, 0, none⟩ (.bool true)) := upd1
  have hk : ∀ {k : Nat} {o : Obj}, W.heap[k]? = some o → k ≠ z + 1 + 1 + 1 + 1 → k ≠ z + 1 + 1 + 1 + 1 + 1 + 1 → ((W.setCell ⟨z + 1 + 1 + 1 + 1, 0, none⟩ (.int .i64 (x.1.1 : Nat))).setCell ⟨z + 1 + 1 + 1 + 1 + 1 + 1, 0, none⟩ (.bool true)).heap[k]? = some o := fun ho b c => hu3.keep (hu2.keep ho b) c
  have hbl : Below z W ((W.setCell ⟨z + 1 + 1 + 1 + 1, 0, none⟩ (.int .i64 (x.1.1 : Nat))).setCell ⟨z + 1 + 1 + 1 + 1 + 1 + 1, 0, none⟩ (.bool true)) :=
    ((Below.refl z W).setCell (p := ⟨z + 1 + 1 + 1 + 1, 0, none⟩) (show z ≤ z + 1 + 1 + 1 + 1 by omega) _).setCell (p := ⟨z + 1 + 1 + 1 + 1 + 1 + 1, 0, none⟩) (show z ≤ z + 1 + 1 + 1 + 1 + 1 + 1 by omega) _
  refine ⟨hk h.res (by omega) (by omega), ?_, hk h.tab (by omega) (by omega), hu3.keep (cells1 h.lvl) (by omega), hk h.lst (by omega) (by omega), ?_, hk h.box (by omega) (by omega), hk h.cap (by omega) (by omega), h.siz, h.ok, h.bel.trans hbl, hk hbx (by omega) (by omega), ((KeepsOthers.setCell _ _ _).from _).trans ((KeepsOthers.setCell _ _ _).from _), hbl⟩
  · obtain ⟨es, clock, hb, F, hs, hD⟩ := h.map
    exact ⟨es, clock, hk hb (by omega) (by omega), F, hs, hD⟩
  · rw [show (pre.isEmpty || decide (lvlX pre ≠ x.1.1)) = true from by simp; exact .inr (fun e => he e.symm)]
    exact cells1 (hu2.keep h.fst (by omega))
set_option maxRecDepth 100000 in
set_option maxHeartbeats 8000000 in
theorem check_main {w : World} {s : MSt} {a : Option Addr} {n ca : Nat} (hn : n = s.levels.length) (hh : headB s = true) (hL : LevsAt w (.slice a n ca) s.levels) (hid : ∀ y ∈ flat s.levels, y.2.id < 18446744073709551616) :
    CallsIn Fence.wide 6 Tryz.prog 53 #[.agg #[.int .u64 (s.next : Nat), .int .u64 (s.log : Nat), .slice a n ca]] w (CheckPost s w) := by
  obtain ⟨X, hX⟩ := xs_of _ hid
  obtain ⟨q1, q2, q3, q4, q5⟩ := head_iff.1 hh
  have d1 : decide ((s.next : Int) < 1) = false := by simp; omega
  have d2 : decide ((1099511627776 : Int) < (s.next : Int)) = false := by simp; omega
  have d3 : decide ((s.log : Int) < 1) = false := by simp; omega
  have d4 : decide ((1099511627776 : Int) < (s.log : Int)) = false := by simp; omega
  have d5 : decide ((7 : Int) < (n : Int)) = false := by simp; omega
  have HN := Lib.hid hn
  have HL := Lib.hid hL
  have HH := Lib.hid hh
  have HX := Lib.hid hX
  clear hn hL hh hX hid q1 q2 q3 q4 q5
  refine callsIn_of_wp_marks Tryz.func53 rfl trivial ?_ rfl
  simp only [Tryz.ntmps53, List.size_toArray, List.length_cons, List.length_nil, Nat.reduceAdd, Nat.reduceSub, Array.replicate_succ, Array.replicate_zero, List.push_toArray, List.append_toArray, List.nil_append, List.cons_append]
  have hmm := @run_makeMap Tryz.prog
  gi_wp2_with (refine ⟨trivial, ?_⟩; gi_at_call 73; refine (all_in Fence.wide (6 - 1) trivial rfl _ _ _ _ _ _).mono ?_; rintro e w' ⟨rfl, rfl⟩)
  obtain ⟨W0, hW0, hsz, hB0, k0, k1, k2, k3, k4, k5, k6, k7⟩ := w0_facts w (.cells #[.int .u64 (s.next : Nat), .int .u64 (s.log : Nat), .slice a n ca] 28) (.cells #[.int .i64 0] 36) (.map #[] 0) (.cells #[.map (some (w.heap.size + 1 + 1))] 116) (.cells #[.int .i64 0] 3) (.cells #[.string ⟨#[]⟩] 9) (.cells #[.bool true] 4) (.cells #[.int .u64 (s.next : Nat), .int .u64 (s.log : Nat), .slice a n ca] 28)
  rw [hW0]
  have hm0 : W0.ownsMap Tryz.prog 25 (unitElem (H := Nat)) (w.heap.size + 1 + 1) 0 (.map []) := by
    rw [← hW0]
    have h2 := World.ownsMap_made ((w.alloc (.cells #[.int .u64 (s.next : Nat), .int .u64 (s.log : Nat), .slice a n ca] 28)).alloc (.cells #[.int .i64 0] 36)) Tryz.prog 25 (unitElem (H := Nat))
    simp only [World.size_alloc] at h2
    exact ((((h2.alloc _).alloc _).alloc _).alloc _).alloc _
  have HCI : Hid (CI w w.heap.size s.next s.log (.slice a n ca) [] W0) := ⟨k1, hm0, k3, k4, k5, k6, k0, k7, rfl, rfl, hB0⟩
  clear hW0 hm0 k0 k1 k2 k3 k4 k5 k6 hmm
  generalize hz : w.heap.size = z at *
  refine wpIn_rangeFunc_ownH rfl (by omega) (gf := 87) (lb := #[.pointer (some ⟨z + 1 + 1 + 1 + 1 + 1 + 1 + 1, 0, none⟩)]) rfl trivial (enters_of Tryz.func87 (by kernel_rfl) rfl)
    (all_stops Fence.wide (6 - 1) trivial rfl (by omega) (z + 1 + 1 + 1 + 1 + 1 + 1 + 1) s.next s.log a n ca s.levels X HX.out HN.out w W0 (by rw [hz]; exact hB0) k7 HL.out) belowK_t (belowK_b (by omega)) (Below.refl _ _) (fun _ => rfl)
    (CI w z s.next s.log (.slice a n ca))
    (fun c pre W => c = .ret ∧ W.heap[z + 1]? = some (.cells #[.int .i64 2] 36 (0, 0)) ∧ allOk s.next [] (vals pre) = false ∧ Below z w W)
    (by rw [hsz]; exact CI.own w z s.next s.log (.slice a n ca))
    (fun c pre A B row hs hg hr => ⟨hs.1, (hg.block _ (lt_of_heap hs.2.1) (fun e => by have := (hr _ e.symm).1; omega)).trans hs.2.1, hs.2.2.1, own_bel hz hs.2.2.2 hg (fun r e => by have := (hr r e).1; omega)⟩)
    HCI.out
    (fun x a' W => ∃ Bx, z + 1 + 1 + 1 + 1 + 1 + 1 + 1 < Bx ∧ W.heap[Bx]? = some (.cells #[.int .u64 (x.1.2.id : Nat), .string x.1.2.low, .string x.1.2.high, .int .i64 x.1.2.cells] 72 (0, 0)) ∧ a' = A33 z s.next s.log a n ca (.int .i64 (x.1.1 : Nat)) (.pointer (some ⟨Bx, 0, none⟩)) (.int .i64 (x.1.1 : Nat)) (agF x.1.2))
    (fun x a' _ A B row hs hg hr => by
      obtain ⟨Bx, h1, h2, h3⟩ := hs
      exact ⟨Bx, h1, (hg.block _ (lt_of_heap h2) (fun e => by obtain ⟨_, o, ho, hc⟩ := hr _ e.symm; rw [h2] at ho; cases ho; cases hc)).trans h2, h3⟩)
    ?assign ?body ?done ?stop
  case assign =>
    intro l pre x W K hi hK
    dsimp only [encX]
    unfold agF
    gi_wp2
    exact hK _ _ ((KeepsOthers.alloc _ _).from _) ((Below.refl _ W).alloc (by have := hi.bel.size; omega) _) ((CI.own w z s.next s.log (.slice a n ca)) pre W _ none hi (World.grownBy_alloc W _ none) (fun r e => by cases e))
      ⟨W.heap.size, lt_of_heap hi.cap, heap_alloc _, rfl⟩
  case body =>
    rintro l pre x a' W hl ⟨r, hr⟩ hI ⟨Bx, hBx, hbx, rfl⟩ hlt
    have c4 := cell_of_heap hI.lvl 0
    have f4 := frozen_of_heap hI.lvl 0 none
    have f6 := frozen_of_heap hI.fst 0 none
    have c6 := cell_of_heap hI.fst 0
    simp only [List.getElem?_toArray, List.getElem?_cons_zero] at c4 c6
    gi_upto_if 42 with fail
    gi_cut [] from 85 (fun wx => CM w z s.next s.log (.slice a n ca) pre x Bx W wx)
    case first =>
      by_cases he : x.1.1 = lvlX pre
      · have hb : ((x.1.1 : Int) != (lvlX pre : Int)) = false := by simp [he]
        clear c4 f4 c6 f6
        have HE := Lib.hid he
        clear he
        gi_wp2
        gi_meet
        case rel => exact ⟨hI.res, hI.map, hI.tab, by rw [HE.out]; exact hI.lvl, hI.lst, by rw [show (pre.isEmpty || decide (lvlX pre ≠ x.1.1)) = pre.isEmpty from by simp [HE.out]]; exact hI.fst, hI.box, hI.cap, hI.siz, hI.ok, hI.bel, hbx, KeepsFrom.refl _ _, Below.refl _ _⟩
      · have hb : ((x.1.1 : Int) != (lvlX pre : Int)) = true := by simp; omega
        have HE := Lib.hid he
        clear he
        gi_wp2
        gi_meet
        case rel => exact hI.turn hz hbx HE.out hBx
    case rest =>
      clear c4 f4 c6 f6 hbx hI
      have hown := hcut.map
      have ct := cell_of_heap hcut.tab 0
      have e0 := cell_of_heap hcut.file 0
      simp only [List.getElem?_toArray, List.getElem?_cons_zero] at ct e0
      have HC := Lib.hid hcut
      clear hcut
      gi_upto_region 12 with (gi_at_lookup; refine wpListIn_lookup_own_unit _ rfl _ _ 116 rfl 25 120 (Maps.int_keyed Tryz.underlying25) Tryz.underlying116 (zero109 _) (z + 1 + 1) pre.length _ rfl hown _ _ rfl (key42 x) ?_)
      rw [has_ids]
      have hcd := HC.out.upd0 ((Upd.refl _ wc).alloc (.cells #[] 120)) hz
      clear hown ct e0 HC
      generalize wc.alloc (.cells #[] 120) = wd at *
      generalize wc.heap.size = t9 at *
      have HOK := Lib.hid (okAt_eq s.next pre x)
      have hlen := hcd.map.len Tryz.underlying116 3
      rw [hcd.siz] at hlen
      have hown := hcd.map
      have hpl := allOk_len hcd.ok
      have ct := cell_of_heap hcd.tab 0
      have cl := cell_of_heap hcd.lst 0
      have cf := cell_of_heap hcd.fst 0
      have cr := cell_of_heap hcd.res 0
      have fr := frozen_of_heap hcd.res 0 none
      obtain ⟨b0, b1, b2⟩ := box_cells hcd.box
      have e0 := cell_of_heap hcd.file 0
      have e1 := cell_of_heap hcd.file 1
      have e2 := cell_of_heap hcd.file 2
      have e3 := cell_of_heap hcd.file 3
      simp only [List.getElem?_toArray, List.getElem?_cons_zero, List.getElem?_cons_succ] at ct cl cf cr e0 e1 e2 e3
      have HD := Lib.hid hcd
      have hlt : Op.bytesLess (lastX pre).toList x.1.2.low.toList = bf (lastX pre) x.1.2.low := bf_less _ _
      clear hcd
      generalize hrb : rightB x.1.2 s.next = rb at *
      generalize hbb : bf (lastX pre) x.1.2.low = bb at *
      generalize hfs : (pre.isEmpty || decide (lvlX pre ≠ x.1.1)) = fs at *
      generalize htw : newB (vals pre) x.1 = tw at *
      have HRB := Lib.hid hrb
      have HBB := Lib.hid hbb
      have HFS := Lib.hid hfs
      have HTW := Lib.hid htw
      clear hrb hbb hfs htw
      have HBX := Lib.hid hBx
      cases tw with
      | false =>
        gi_wp2
        refine ⟨trivial, ?_⟩
        gi_wp2
        exact HD.out.bad hz hsz (by rw [HOK.out]; simp)
      | true =>
        by_cases hfull : pre.length = 1024
        · skip
          have hq : ((pre.length : Int) == 1024) = true := by simp; omega
          have hq2 : (pre.length : Int) = 1024 := by omega
          have HF := Lib.hid hfull
          clear hfull
          gi_wp2
          refine ⟨trivial, ?_⟩
          gi_wp2
          exact HD.out.bad hz hsz (by rw [HOK.out]; simp [HF.out])
        · cases rb with
          | false =>
            have hq : ((pre.length : Int) == 1024) = false := by simp; omega
            have hq2 : ¬ (pre.length : Int) = 1024 := by omega
            have HF := Lib.hid hfull
            clear hfull
            gi_wp2_with (refine ⟨trivial, ?_⟩; gi_at_call 74)
            refine (CallsIn.inRound l (callsIn_wide.2 (right_any x.1.2 s.next _))).mono ?_
            rintro e w2 ⟨rfl, hu⟩
            rw [HRB.out]
            have hce := HD.out.upd0 hu hz
            clear hlen hown ct cl cf cr fr b0 b1 b2 e0 e1 e2 e3
            have ct := cell_of_heap hce.tab 0
            have cl := cell_of_heap hce.lst 0
            have cf := cell_of_heap hce.fst 0
            have cr := cell_of_heap hce.res 0
            have fr := frozen_of_heap hce.res 0 none
            have e0 := cell_of_heap hce.file 0
            have e1 := cell_of_heap hce.file 1
            have e2 := cell_of_heap hce.file 2
            have e3 := cell_of_heap hce.file 3
            rw [HFS.out] at cf
            simp only [List.getElem?_toArray, List.getElem?_cons_zero, List.getElem?_cons_succ] at ct cl cf cr e0 e1 e2 e3
            have hown := hce.map
            have HE := Lib.hid hce
            clear hce hu
            gi_wp2
            exact HE.out.bad hz hsz (by rw [HOK.out]; simp [HF.out])
          | true =>
            by_cases hlev : x.1.1 = 0
            · skip
              have hq : ((pre.length : Int) == 1024) = false := by simp; omega
              have hq2 : ¬ (pre.length : Int) = 1024 := by omega
              have hv : decide ((0 : Int) < (x.1.1 : Int)) = false := by simp; omega
              have hv2 : decide (0 < x.1.1) = false := by simp; omega
              have hv3 : ¬ 0 < x.1.1 := by omega
              have HF := Lib.hid hfull
              have HL0 := Lib.hid hlev
              clear hfull
              clear hlev
              gi_wp2_with (refine ⟨trivial, ?_⟩; gi_at_call 74)
              refine (CallsIn.inRound l (callsIn_wide.2 (right_any x.1.2 s.next _))).mono ?_
              rintro e w2 ⟨rfl, hu⟩
              rw [HRB.out]
              have hce := HD.out.upd0 hu hz
              clear hlen hown ct cl cf cr fr b0 b1 b2 e0 e1 e2 e3
              have ct := cell_of_heap hce.tab 0
              have cl := cell_of_heap hce.lst 0
              have cf := cell_of_heap hce.fst 0
              have cr := cell_of_heap hce.res 0
              have fr := frozen_of_heap hce.res 0 none
              have e0 := cell_of_heap hce.file 0
              have e1 := cell_of_heap hce.file 1
              have e2 := cell_of_heap hce.file 2
              have e3 := cell_of_heap hce.file 3
              rw [HFS.out] at cf
              simp only [List.getElem?_toArray, List.getElem?_cons_zero, List.getElem?_cons_succ] at ct cl cf cr e0 e1 e2 e3
              have hown := hce.map
              have HE := Lib.hid hce
              clear hce hu
              gi_wp2_with (gi_at_mapUpdate; refine wpListIn_mapUpdate_own _ rfl _ _ _ 116 rfl 25 120 (Maps.int_keyed Tryz.underlying25) Tryz.underlying116 _ (z + 1 + 1) pre.length _ rfl hown (by unfold maxLen; omega) _ _ _ rfl rfl (key42 x) _ [] unitElem_mk ?_; intro w1 hm1 hg1; have hu1 : Upd (fun i => i = z + 1 + 1) w2 w1 := (Upd.refl _ w2).of_grown hg1 (fun k e _ => by cases e; rfl); have j2 := cell_upd hu1 e2 (by have := HBX.out; omega); have jl := cell_upd hu1 cl (by omega); have jf := cell_upd hu1 cf (by omega); have kl := frozen_of_heap (hu1.keep HE.out.lst (by omega)) 0 none; have kf := frozen_of_heap (hu1.keep HE.out.fst (by omega)) 0 none; have HM1 := Lib.hid hm1; have HG1 := Lib.hid hg1; clear hm1 hg1 hown hu1)
              exact HE.out.next hz hsz HTW.out HM1.out HG1.out (by rw [HOK.out]; simp [HF.out, HL0.out])
            · cases fs with
              | true =>
                have hq : ((pre.length : Int) == 1024) = false := by simp; omega
                have hq2 : ¬ (pre.length : Int) = 1024 := by omega
                have hv : decide ((0 : Int) < (x.1.1 : Int)) = true := by simp; omega
                have hv2 : decide (0 < x.1.1) = true := by simp; omega
                have hv3 : 0 < x.1.1 := by omega
                have HF := Lib.hid hfull
                have HL0 := Lib.hid hlev
                clear hfull
                clear hlev
                gi_wp2_with (refine ⟨trivial, ?_⟩; gi_at_call 74)
                refine (CallsIn.inRound l (callsIn_wide.2 (right_any x.1.2 s.next _))).mono ?_
                rintro e w2 ⟨rfl, hu⟩
                rw [HRB.out]
                have hce := HD.out.upd0 hu hz
                clear hlen hown ct cl cf cr fr b0 b1 b2 e0 e1 e2 e3
                have ct := cell_of_heap hce.tab 0
                have cl := cell_of_heap hce.lst 0
                have cf := cell_of_heap hce.fst 0
                have cr := cell_of_heap hce.res 0
                have fr := frozen_of_heap hce.res 0 none
                have e0 := cell_of_heap hce.file 0
                have e1 := cell_of_heap hce.file 1
                have e2 := cell_of_heap hce.file 2
                have e3 := cell_of_heap hce.file 3
                rw [HFS.out] at cf
                simp only [List.getElem?_toArray, List.getElem?_cons_zero, List.getElem?_cons_succ] at ct cl cf cr e0 e1 e2 e3
                have hown := hce.map
                have HE := Lib.hid hce
                clear hce hu
                gi_wp2_with (gi_at_mapUpdate; refine wpListIn_mapUpdate_own _ rfl _ _ _ 116 rfl 25 120 (Maps.int_keyed Tryz.underlying25) Tryz.underlying116 _ (z + 1 + 1) pre.length _ rfl hown (by unfold maxLen; omega) _ _ _ rfl rfl (key42 x) _ [] unitElem_mk ?_; intro w1 hm1 hg1; have hu1 : Upd (fun i => i = z + 1 + 1) w2 w1 := (Upd.refl _ w2).of_grown hg1 (fun k e _ => by cases e; rfl); have j2 := cell_upd hu1 e2 (by have := HBX.out; omega); have jl := cell_upd hu1 cl (by omega); have jf := cell_upd hu1 cf (by omega); have kl := frozen_of_heap (hu1.keep HE.out.lst (by omega)) 0 none; have kf := frozen_of_heap (hu1.keep HE.out.fst (by omega)) 0 none; have HM1 := Lib.hid hm1; have HG1 := Lib.hid hg1; clear hm1 hg1 hown hu1)
                exact HE.out.next hz hsz HTW.out HM1.out HG1.out (by rw [HOK.out]; simp [HF.out, HL0.out])
              | false =>
                cases bb with
                | true =>
                  have hq : ((pre.length : Int) == 1024) = false := by simp; omega
                  have hq2 : ¬ (pre.length : Int) = 1024 := by omega
                  have hv : decide ((0 : Int) < (x.1.1 : Int)) = true := by simp; omega
                  have hv2 : decide (0 < x.1.1) = true := by simp; omega
                  have hv3 : 0 < x.1.1 := by omega
                  have HF := Lib.hid hfull
                  have HL0 := Lib.hid hlev
                  clear hfull
                  clear hlev
                  gi_wp2_with (refine ⟨trivial, ?_⟩; gi_at_call 74)
                  refine (CallsIn.inRound l (callsIn_wide.2 (right_any x.1.2 s.next _))).mono ?_
                  rintro e w2 ⟨rfl, hu⟩
                  rw [HRB.out]
                  have hce := HD.out.upd0 hu hz
                  clear hlen hown ct cl cf cr fr b0 b1 b2 e0 e1 e2 e3
                  have ct := cell_of_heap hce.tab 0
                  have cl := cell_of_heap hce.lst 0
                  have cf := cell_of_heap hce.fst 0
                  have cr := cell_of_heap hce.res 0
                  have fr := frozen_of_heap hce.res 0 none
                  have e0 := cell_of_heap hce.file 0
                  have e1 := cell_of_heap hce.file 1
                  have e2 := cell_of_heap hce.file 2
                  have e3 := cell_of_heap hce.file 3
                  rw [HFS.out] at cf
                  simp only [List.getElem?_toArray, List.getElem?_cons_zero, List.getElem?_cons_succ] at ct cl cf cr e0 e1 e2 e3
                  have hown := hce.map
                  have HE := Lib.hid hce
                  clear hce hu
                  gi_wp2_with (gi_at_mapUpdate; refine wpListIn_mapUpdate_own _ rfl _ _ _ 116 rfl 25 120 (Maps.int_keyed Tryz.underlying25) Tryz.underlying116 _ (z + 1 + 1) pre.length _ rfl hown (by unfold maxLen; omega) _ _ _ rfl rfl (key42 x) _ [] unitElem_mk ?_; intro w1 hm1 hg1; have hu1 : Upd (fun i => i = z + 1 + 1) w2 w1 := (Upd.refl _ w2).of_grown hg1 (fun k e _ => by cases e; rfl); have j2 := cell_upd hu1 e2 (by have := HBX.out; omega); have jl := cell_upd hu1 cl (by omega); have jf := cell_upd hu1 cf (by omega); have kl := frozen_of_heap (hu1.keep HE.out.lst (by omega)) 0 none; have kf := frozen_of_heap (hu1.keep HE.out.fst (by omega)) 0 none; have HM1 := Lib.hid hm1; have HG1 := Lib.hid hg1; clear hm1 hg1 hown hu1)
                  exact HE.out.next hz hsz HTW.out HM1.out HG1.out (by rw [HOK.out]; simp [HF.out, HL0.out])
                | false =>
                  have hq : ((pre.length : Int) == 1024) = false := by simp; omega
                  have hq2 : ¬ (pre.length : Int) = 1024 := by omega
                  have hv : decide ((0 : Int) < (x.1.1 : Int)) = true := by simp; omega
                  have hv2 : decide (0 < x.1.1) = true := by simp; omega
                  have hv3 : 0 < x.1.1 := by omega
                  have HF := Lib.hid hfull
                  have HL0 := Lib.hid hlev
                  clear hfull
                  clear hlev
                  gi_wp2_with (refine ⟨trivial, ?_⟩; gi_at_call 74)
                  refine (CallsIn.inRound l (callsIn_wide.2 (right_any x.1.2 s.next _))).mono ?_
                  rintro e w2 ⟨rfl, hu⟩
                  rw [HRB.out]
                  have hce := HD.out.upd0 hu hz
                  clear hlen hown ct cl cf cr fr b0 b1 b2 e0 e1 e2 e3
                  have ct := cell_of_heap hce.tab 0
                  have cl := cell_of_heap hce.lst 0
                  have cf := cell_of_heap hce.fst 0
                  have cr := cell_of_heap hce.res 0
                  have fr := frozen_of_heap hce.res 0 none
                  have e0 := cell_of_heap hce.file 0
                  have e1 := cell_of_heap hce.file 1
                  have e2 := cell_of_heap hce.file 2
                  have e3 := cell_of_heap hce.file 3
                  rw [HFS.out] at cf
                  simp only [List.getElem?_toArray, List.getElem?_cons_zero, List.getElem?_cons_succ] at ct cl cf cr e0 e1 e2 e3
                  have hown := hce.map
                  have HE := Lib.hid hce
                  clear hce hu
                  gi_wp2
                  exact HE.out.bad hz hsz (by rw [HOK.out]; simp [HF.out, HL0.out])
  case done =>
    rintro D ys W hD rfl hI hK
    have hmap := hI.map
    obtain ⟨es, ck, hbm, hFit, hsm, hDm⟩ := hmap
    have hcl := run_clear_map hbm 0
    have ct := cell_of_heap hI.tab 0
    simp only [List.getElem?_toArray, List.getElem?_cons_zero] at ct
    gi_upto_region 17 with fail
    have hu1 : Upd (fun i => i = z + 1 + 1) W (Go.ChangeMaps.setBlock W (z + 1 + 1) (.map #[] ck)) := (Upd.refl _ W).of_grown (World.mapTurned.grown ⟨es, ck, #[], ck, hbm, rfl⟩) (fun k e _ => by cases e; rfl)
    have hr1 := hu1.keep hI.res (by omega)
    have hK1 := hu1.keep hK (by omega)
    have hU1 : Upd (fun _ => False) w (Go.ChangeMaps.setBlock W (z + 1 + 1) (.map #[] ck)) := (Upd.of_below (S := fun _ => False) (by rw [hz]; exact hI.bel)).trans hu1 (fun i hi e => by omega)
    clear hu1 hcl ct hbm hFit hDm hK
    generalize Go.ChangeMaps.setBlock W (z + 1 + 1) (.map #[] ck) = W1 at *
    have cr := cell_of_heap hr1 0
    have fr := frozen_of_heap hr1 0 none
    simp only [List.getElem?_toArray, List.getElem?_cons_zero] at cr
    gi_wp2
    have hu2 : Upd (fun i => i = z + 1) W1 (W1.setCell ⟨z + 1, 0, none⟩ (.int .i64 0)) := upd1
    have hK2 := hu2.keep hK1 (by omega)
    have hu3 : Upd (fun i => i = D) (W1.setCell ⟨z + 1, 0, none⟩ (.int .i64 0)) ((W1.setCell ⟨z + 1, 0, none⟩ (.int .i64 0)).putObj D (.deferred none)) := (Upd.refl _ _).of_grown (grownBy_putObj' _ D _) (fun k e _ => by cases e; rfl)
    have hr2 := hu3.keep (cells1 (v0 := .int .i64 0) hr1) (by omega)
    refine ⟨by simp, .inl ⟨_, _, rfl, run_takeDeferred hK2, ?_⟩⟩
    refine ⟨.int .i64 0, ?_, ?_⟩
    · refine results_cell1 (p := 2) (ty := 36) rfl _ _ (z + 1) _ rfl ?_
      have hc := cell_of_heap hr2 0
      simp only [List.getElem?_toArray, List.getElem?_cons_zero] at hc
      simp [go_sem, hc]
    · have hm : mayS s = true := by
        unfold mayS
        rw [HH.out, Bool.true_and, ← HX.out]
        exact hI.ok
      exact ⟨by rw [if_pos hm], (hU1.trans hu2 (fun i hi e => by omega)).trans hu3 (fun i hi e => by omega)⟩
  case stop =>
    rintro D c pre W hD hpre ⟨rfl, hres, hbad, hbel⟩ hK
    gi_wp2
    have hu3 : Upd (fun i => i = D) W (W.putObj D (.deferred none)) := (Upd.refl _ _).of_grown (grownBy_putObj' _ D _) (fun k e _ => by cases e; rfl)
    have hr2 := hu3.keep hres (by omega)
    refine ⟨by simp, .inl ⟨_, _, rfl, run_takeDeferred hK, ?_⟩⟩
    refine ⟨.int .i64 2, ?_, ?_⟩
    · refine results_cell1 (p := 2) (ty := 36) rfl _ _ (z + 1) _ rfl ?_
      have hc := cell_of_heap hr2 0
      simp only [List.getElem?_toArray, List.getElem?_cons_zero] at hc
      simp [go_sem, hc]
    · have hm : ¬ mayS s = true := by
        obtain ⟨rest, hr⟩ := hpre
        unfold mayS
        rw [HH.out, Bool.true_and, ← HX.out, ← hr, List.map_append, allOk_append, show allOk s.next [] (List.map (fun x => x.val) pre) = false from hbad]
        simp
      exact ⟨by rw [if_neg hm], (Upd.of_below (S := fun _ => False) (by rw [hz]; exact hbel)).trans hu3 (fun i hi e => by omega)⟩
theorem check_any {w : World} {s : MSt} {a : Option Addr} {n ca : Nat} (hn : n = s.levels.length) (hL : LevsAt w (.slice a n ca) s.levels) (hid : ∀ y ∈ flat s.levels, y.2.id < 18446744073709551616) :
    Calls Tryz.prog 53 #[.agg #[.int .u64 (s.next : Nat), .int .u64 (s.log : Nat), .slice a n ca]] w (CheckPost s w) := by
  cases hh : headB s with
  | false => exact check_head hn hh
  | true => exact callsIn_wide.1 (check_main hn hh hL hid)
end Go.Proofs.YtgkegfgdpekehaaGreat
