/- The reference's New; what a step of DiskPlays leaves. -/
import Derived.Test.YtgkegfgdpekehaaEa
import Derived.Test.YtgkegfgdpekehaaDy
namespace Go.Proofs.Ytgkegfgdpekehaa
open Go.RowKit Go.Acre Go.Acre.Dk Go.Maps
theorem results_tct {P : Program} {fn : Func} {s p u : Tmp} {ty : TypeId} (h : fn.results = #[.tmp s, .cell p ty, .tmp u]) (tmps : Array Value) (w : World) (g : Nat) (t : TypeId) (cs : Array Value) (fr : Nat × Nat) (d : TypeDesc)
    (hp : tmps.getD p undef = .pointer (some ⟨g, 0, none⟩)) (hg : w.heap[g]? = some (.cells cs t fr))
    (hu : P.underlying ty = some d) (hd : (match d with | .struct _ | .array _ _ => true | _ => false) = true) (hi : (P.info? ty).map (·.size) = some cs.size) :
    (results fn tmps).run P w = .ok (.tuple #[tmps.getD s undef, .agg cs, tmps.getD u undef]) w := by
  have hp' : tmps[p]?.getD undef = .pointer (some ⟨g, 0, none⟩) := by simpa using hp
  simp [results, h, hp', asAddr, run_loadVar_row w g t ty cs fr d hg hu hd hi]
set_option maxRecDepth 100000 in
theorem rnew_any (r : Int) (w : World) (h : -9223372036854775808 ≤ r ∧ r ≤ 9223372036854775807) : Calls Try.prog 51 #[.int .i64 r] w fun e w' => e = .returned (.agg #[.int .i64 (r.toNat : Nat), .slice none 0 0]) ∧ Upd (fun _ => False) w w' := by
  have hx := heap_alloc (w := w) (.cells #[.int .i64 0, .slice none 0 0] 69)
  have hu : Upd (fun _ => False) w (w.alloc (.cells #[.int .i64 0, .slice none 0 0] 69)) := (Upd.refl _ w).alloc _
  have HX := Lib.hid hx
  have HU := Lib.hid hu
  have hmx : Hid (max r 0 = ((r.toNat : Nat) : Int)) := by show _ = _; omega
  go_enter Try.func51, Try.ntmps51
  go_upto_region 1 with fail
  have t0 := cell_of_heap hx 0
  have t1 := cell_of_heap hx 1
  simp only [List.getElem?_toArray, List.getElem?_cons_zero, List.getElem?_cons_succ] at t0 t1
  have z0 := frozen_of_heap hx 0 none
  have z1 := frozen_of_heap hx 1 none
  clear hx hu
  generalize w.alloc (.cells #[.int .i64 0, .slice none 0 0] 69) = wa at *
  generalize hxb : w.heap.size = xb at *
  have HXB := Lib.hid hxb
  clear hxb
  go_wp2_with fail
  try simp only [Exit.inBlock, Exit.then]
  refine bodyPost_ret (results_cell_row rfl _ _ xb 69 _ (0, 0) _ rfl (cells2 HX.out) Try.underlying69 rfl (by kernel_rfl)) rfl ?_
  exact ⟨by rw [hmx.out], HU.out.trans (upd2 (b := xb)) (fun i hi e => by have := HXB.out; omega)⟩
/-- the files' row is not the disk's -/
def Apart (S : Nat → Prop) (v : Value) (D : Files) : Prop := D ≠ [] → ∀ g, v.ownBlock = some g → ¬ S g
theorem FilesAt.lt {w : World} {a : Option Addr} {n cap : Nat} {D : Files} (h : FilesAt w (.slice a n cap) D) (hne : D ≠ []) : ∀ g, (Value.slice a n cap).ownBlock = some g → g < w.heap.size := by
  intro g hg
  obtain ⟨g', o, rfl, c0, _⟩ := h.cell (i := 0) (List.length_pos_iff.2 hne)
  simp [Value.ownBlock] at hg
  subst hg
  exact World.block_lt_of_cell? w _ c0
theorem FilesAt.updS {w w' : World} {v : Value} {D : Files} {S : Nat → Prop} (h : FilesAt w v D) (hu : Upd S w w') (ha : Apart S v D) : FilesAt w' v D := by
  by_cases hne : D = []
  · subst hne
    obtain ⟨h1, a, cap, h2, h3, h4, h5, h6⟩ := h
    exact ⟨h1, a, cap, h2, h3, h4, h5, fun h => (h rfl).elim⟩
  · exact RowAt.upd_own h hu (fun g hg => ha hne g hg)
def StepPost (S : Nat → Prop) (w : World) (room n : Nat) (vin : Value) (D : Files) (m : Nat) (e : Ending) (w' : World) : Prop :=
  ∃ (db' : Nat) (a' : Option Addr) (cap' : Nat) (D' : Files) (S' : Nat → Prop), e = .returned (.tuple #[.pointer (some ⟨db', 0, none⟩), .agg #[.int .i64 (room : Nat), .slice a' D'.length cap'], .bool true]) ∧ Has w' S' db' room (n + 1) D' ∧ (∀ k, S' k → S k ∨ w.heap.size ≤ k) ∧ Upd S w w' ∧
    FilesAt w' (.slice a' D'.length cap') D' ∧ Apart S' (.slice a' D'.length cap') D' ∧ Grew D D' m ∧ (Value.slice a' D'.length cap' = vin ∨ ∀ g, (Value.slice a' D'.length cap').ownBlock = some g → w.heap.size ≤ g)
end Go.Proofs.Ytgkegfgdpekehaa
