/- The walk of Check. -/
import Derived.Test.YtgkegfgdpekehaaGreatMm
import Derived.Maps.OwnIn
import Derived.Maps.OwnSet
import Derived.RangeFuncBox
import Derived.Outline
namespace Go.Proofs.YtgkegfgdpekehaaGreat
open Go.RowKit Go.Shelf Go.Acre Go.Acre.Dk Go.Maps
attribute [local go_sem] Oper.semAt_some
def CheckPost (s : MSt) (w : World) (e : Ending) (w' : World) : Prop := e = .returned (.int .i64 (if mayS s = true then 0 else 2)) ∧ Upd (fun _ => False) w w'
theorem head_iff {s : MSt} : headB s = true ↔ 1 ≤ s.next ∧ s.next ≤ 1099511627776 ∧ 1 ≤ s.log ∧ s.log ≤ 1099511627776 ∧ s.levels.length ≤ 7 := by
  unfold headB M40
  simp only [Bool.and_eq_true, decide_eq_true_eq]
  constructor
  · rintro ⟨⟨⟨⟨a, b⟩, c⟩, d⟩, e⟩
    exact ⟨a, b, c, d, e⟩
  · rintro ⟨a, b, c, d, e⟩
    exact ⟨⟨⟨⟨a, b⟩, c⟩, d⟩, e⟩
theorem cells1 {w : World} {b t : Nat} {a0 v0 : Value} (h : w.heap[b]? = some (.cells #[a0] t (0, 0))) : (w.setCell ⟨b, 0, none⟩ v0).heap[b]? = some (.cells #[v0] t (0, 0)) := by
  have := heap_setCell (o := 0) h v0
  simpa using this
theorem check_box (w : World) (x y : Nat) (v : Value) : ((w.alloc (.cells #[.int .u64 (x : Nat), .int .u64 (y : Nat), v] 28)).alloc (.cells #[.int .i64 0] 36)).heap[w.heap.size]? = some (.cells #[.int .u64 (x : Nat), .int .u64 (y : Nat), v] 28 (0, 0)) ∧
    ((w.alloc (.cells #[.int .u64 (x : Nat), .int .u64 (y : Nat), v] 28)).alloc (.cells #[.int .i64 0] 36)).heap[w.heap.size + 1]? = some (.cells #[.int .i64 0] 36 (0, 0)) := ⟨heap_alloc2_old _ _ _, heap_alloc2_new _ _ _⟩
theorem results_cell1 {P : Program} {fn : Func} {p : Tmp} {ty : TypeId} (h : fn.results = #[.cell p ty]) (tmps : Array Value) (w : World) (g : Nat) (v : Value)
    (hp : tmps.getD p undef = .pointer (some ⟨g, 0, none⟩)) (hl : (loadVar ty (⟨g, 0, none⟩ : Addr)).run P w = .ok v w) : (results fn tmps).run P w = .ok v w := by
  have hp' : tmps[p]?.getD undef = .pointer (some ⟨g, 0, none⟩) := by simpa using hp
  simp [results, h, hp', asAddr, hl]
set_option maxRecDepth 100000 in
set_option maxHeartbeats 4000000 in
theorem check_head {w : World} {s : MSt} {a : Option Addr} {n ca : Nat} (hn : n = s.levels.length) (hh : headB s = false) :
    Calls Tryz.prog 53 #[.agg #[.int .u64 (s.next : Nat), .int .u64 (s.log : Nat), .slice a n ca]] w (CheckPost s w) := by
  have hF : mayS s = false := by unfold mayS; rw [hh]; rfl
  have hu1 : Upd (fun _ => False) w ((w.alloc (.cells #[.int .u64 (s.next : Nat), .int .u64 (s.log : Nat), .slice a n ca] 28)).alloc (.cells #[.int .i64 0] 36)) := ((Upd.refl _ w).alloc _).alloc _
  obtain ⟨hx1, hx2⟩ := check_box w s.next s.log (.slice a n ca)
  have HH : Hid (¬ (1 ≤ s.next ∧ s.next ≤ 1099511627776 ∧ 1 ≤ s.log ∧ s.log ≤ 1099511627776 ∧ n ≤ 7)) := fun h => by
    rw [hn] at h
    rw [head_iff.2 h] at hh
    cases hh
  have HF := Lib.hid hF
  have HU := Lib.hid hu1
  have HX2 := Lib.hid hx2
  clear hn hh hF hu1
  go_enter Tryz.func53, Tryz.ntmps53
  go_upto_region 1 with fail
  generalize (w.alloc (.cells #[.int .u64 (s.next : Nat), .int .u64 (s.log : Nat), .slice a n ca] 28)).alloc (.cells #[.int .i64 0] 36) = wb at *
  generalize hxb : w.heap.size = xb at *
  have HXB := Lib.hid hxb
  obtain ⟨p0, p1, p2⟩ := box_cells hx1
  have r0 := cell_of_heap hx2 0
  have z0 := frozen_of_heap hx2 0 none
  simp only [List.getElem?_toArray, List.getElem?_cons_zero] at r0
  have hc9 : (wb.setCell ⟨xb + 1, 0, none⟩ (.int .i64 2)).cell? ⟨xb + 1, 0, none⟩ = some (.int .i64 2) := cell_of_heap (cells1 HX2.out) 0
  have HC9 := Lib.hid hc9
  clear hxb hx1 hx2 hc9
  go_upto_region 3 with fail
  all_goals first
    | (exfalso; exact HH.out ⟨by omega, by omega, by omega, by omega, by omega⟩)
    | (refine bodyPost_ret (v := .int .i64 2) (by simp [results, Tryz.results33, go_sem, HC9.out]) rfl ⟨by rw [HF.out]; rfl, HU.out.trans upd1 (fun i hi e => by have := HXB.out; omega)⟩)
abbrev A33 (z nx lg : Nat) (a : Option Addr) (n ca : Nat) (s7 s8 s38 s39 : Value) : Act := { tmps := #[Value.agg #[Value.int .u64 (nx : Nat), Value.int .u64 (lg : Nat), Value.slice a n ca], Value.pointer (some ⟨z, 0, none⟩), Value.pointer (some ⟨z + 1, 0, none⟩), Value.pointer (some ⟨z + 1 + 1 + 1, 0, none⟩), Value.pointer (some ⟨z + 1 + 1 + 1 + 1, 0, none⟩), Value.pointer (some ⟨z + 1 + 1 + 1 + 1 + 1, 0, none⟩), Value.pointer (some ⟨z + 1 + 1 + 1 + 1 + 1 + 1, 0, none⟩), s7, s8, undef, undef, Value.pointer (some ⟨z, 0, none⟩), Value.int .u64 (nx : Nat), Value.bool false, Value.bool false, Value.pointer (some ⟨z, 0, none⟩), Value.int .u64 (nx : Nat), Value.bool false, Value.bool false, Value.bool false, Value.pointer (some ⟨z, 1, none⟩), Value.int .u64 (lg : Nat), Value.bool false, Value.bool false, Value.bool false, Value.pointer (some ⟨z, 1, none⟩), Value.int .u64 (lg : Nat), Value.bool false, Value.bool false, Value.bool false, Value.pointer (some ⟨z, 2, none⟩), Value.slice a n ca, Value.int .i64 (n : Nat), Value.bool false, Value.bool false, Value.map (some (z + 1 + 1)), Value.agg #[Value.int .u64 (nx : Nat), Value.int .u64 (lg : Nat), Value.slice a n ca], Value.func (Fn.func 87) #[] #[Value.pointer (some ⟨z + 1 + 1 + 1 + 1 + 1 + 1 + 1, 0, none⟩)], s38, s39, undef, undef, undef, undef, undef, undef, undef, undef, undef, undef, undef, undef, undef, undef, undef, undef, undef, undef, undef, undef, undef, undef, undef, undef, undef, undef, undef, undef, undef, undef, undef, undef, undef, undef, undef, undef, undef, undef, undef, undef, undef, undef, undef, undef, undef], defers := [] }
/-! ### between two rounds -/
abbrev vals (pre : List XF) : List (Nat × PF) := pre.map (·.1)
def lvlX (pre : List XF) : Nat := match pre.getLast? with | some x => x.1.1 | none => 0
def lastX (pre : List XF) : ByteArray := match pre.getLast? with | some x => x.1.2.high | none => ⟨#[]⟩
def idLit (x : XF) : Lit := .int .u64 (x.1.2.id : Nat)
def idsD (pre : List XF) : DataW Nat := setOf (.agg []) (pre.map idLit)
structure CI (w : World) (z nx lg : Nat) (v : Value) (pre : List XF) (W : World) : Prop where
  res : W.heap[z + 1]? = some (.cells #[.int .i64 0] 36 (0, 0))
  map : W.ownsMap Tryz.prog 25 unitElem (z + 1 + 1) pre.length (idsD pre)
  tab : W.heap[z + 1 + 1 + 1]? = some (.cells #[.map (some (z + 1 + 1))] 116 (0, 0))
  lvl : W.heap[z + 1 + 1 + 1 + 1]? = some (.cells #[.int .i64 (lvlX pre : Nat)] 3 (0, 0))
  lst : W.heap[z + 1 + 1 + 1 + 1 + 1]? = some (.cells #[.string (lastX pre)] 9 (0, 0))
  fst : W.heap[z + 1 + 1 + 1 + 1 + 1 + 1]? = some (.cells #[.bool pre.isEmpty] 4 (0, 0))
  box : W.heap[z]? = some (.cells #[.int .u64 (nx : Nat), .int .u64 (lg : Nat), v] 28 (0, 0))
  cap : W.heap[z + 1 + 1 + 1 + 1 + 1 + 1 + 1]? = some (.cells #[.int .u64 (nx : Nat), .int .u64 (lg : Nat), v] 28 (0, 0))
  siz : Maps.size (idsD pre) = pre.length
  ok : allOk nx [] (vals pre) = true
  bel : Below z w W
theorem CI.own (w : World) (z nx lg : Nat) (v : Value) : OwnFrom (z + 1 + 1 + 1 + 1 + 1 + 1 + 1 + 1) (CI w z nx lg v) := by
  intro pre A B row h hg hr
  have hk : ∀ {k : Nat} {o : Obj}, k < z + 1 + 1 + 1 + 1 + 1 + 1 + 1 + 1 → A.heap[k]? = some o → B.heap[k]? = some o := fun hlt ho =>
    (hg.block _ (lt_of_heap ho) (fun e => by have := (hr _ e.symm).1; omega)).trans ho
  obtain ⟨es, clock, hb, F, hs, hD⟩ := h.map
  refine ⟨hk (by omega) h.res, ⟨es, clock, hk (by omega) hb, F, hs, hD⟩, hk (by omega) h.tab, hk (by omega) h.lvl, hk (by omega) h.lst, hk (by omega) h.fst, hk (by omega) h.box, hk (by omega) h.cap, h.siz, h.ok, ?_⟩
  have hbl := h.bel
  exact ⟨hg.os.trans hbl.os, hg.tape.trans hbl.tape, hg.output.trans hbl.output, Nat.le_trans hbl.size hg.size, fun k hk2 => by
    have h1 := hbl.block k hk2
    have hlt : k < A.heap.size := by
      have := lt_of_heap h.res
      omega
    exact (hg.block k hlt (fun e => by have := (hr _ e.symm).1; omega)).trans h1⟩

/-! ### the map is emptied -/
theorem run_clear_map {w : World} {b : Nat} {es : Array MapEntry} {ck : Nat} (hb : w.heap[b]? = some (.map es ck)) (ty : TypeId) :
    (Builtin.clear_ #[116] ty #[.map (some b)]).run Tryz.prog w = .ok (.tuple #[]) (Go.ChangeMaps.setBlock w b (.map #[] ck)) := by
  simp [Builtin.clear_, run_underlying Tryz.underlying116, Go.MapKept.run_getObj_map hb, Go.MapKept.run_setObj_map _ hb, Result.andThen]
  rfl
/-! ### plain: the order in which the files are looked at -/
theorem allOk_append {next : Nat} : ∀ (a b seen : List (Nat × PF)), allOk next seen (a ++ b) = (allOk next seen a && allOk next (seen ++ a) b)
  | [], b, seen => by simp [allOk]
  | x :: a, b, seen => by
    simp only [List.cons_append, allOk, allOk_append a b (seen ++ [x]), List.append_assoc, List.singleton_append, List.nil_append, Bool.and_assoc]
theorem allOk_snoc {next : Nat} (a : List (Nat × PF)) (x : Nat × PF) : allOk next [] (a ++ [x]) = (allOk next [] a && okAt next a x) := by
  rw [allOk_append]
  simp [allOk]
end Go.Proofs.YtgkegfgdpekehaaGreat
