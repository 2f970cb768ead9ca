/- The walk of Split where it splits; results of several cells. -/
import Derived.Test.YtkkickalleelkaaB
import Derived.Laws.ResultCell
import Derived.Laws.Rows
namespace Go.Proofs.Ytkkickalleelkaa
open Go.RowKit Go.Acre
theorem results_ccu {P : Program} {fn : Func} {p q u : Tmp} {ty : TypeId} (h : fn.results = #[.cell p ty, .cell q ty, .tmp u]) (tmps : Array Value) (w : World) (g k : Nat) (t : TypeId) (cs ds : Array Value) (fr : Nat × Nat) (d : TypeDesc)
    (hp : tmps.getD p undef = .pointer (some ⟨g, 0, none⟩)) (hq : tmps.getD q undef = .pointer (some ⟨k, 0, none⟩)) (hg : w.heap[g]? = some (.cells cs t fr)) (hk : w.heap[k]? = some (.cells ds t fr))
    (hu : P.underlying ty = some d) (hd : (match d with | .struct _ | .array _ _ => true | _ => false) = true) (hi : (P.info? ty).map (·.size) = some cs.size) (hi2 : (P.info? ty).map (·.size) = some ds.size) :
    (results fn tmps).run P w = .ok (.tuple #[.agg cs, .agg ds, tmps.getD u undef]) w := by
  have hp2 : tmps[p]?.getD undef = .pointer (some ⟨g, 0, none⟩) := by simpa using hp
  have hq2 : tmps[q]?.getD undef = .pointer (some ⟨k, 0, none⟩) := by simpa using hq
  simp only [results, h]
  simp [Sem.run_bind, Result.andThen, hp2, hq2, asAddr, run_loadVar_row w g t ty cs fr d hg hu hd hi, run_loadVar_row w k t ty ds fr d hk hu hd hi2]
theorem results_c {P : Program} {fn : Func} {p : Tmp} {ty : TypeId} (h : fn.results = #[.cell p ty]) (tmps : Array Value) (w : World) (g : Nat) (t : TypeId) (cs : Array Value) (fr : Nat × Nat) (d : TypeDesc)
    (hp : tmps.getD p undef = .pointer (some ⟨g, 0, none⟩)) (hg : w.heap[g]? = some (.cells cs t fr))
    (hu : P.underlying ty = some d) (hd : (match d with | .struct _ | .array _ _ => true | _ => false) = true) (hi : (P.info? ty).map (·.size) = some cs.size) :
    (results fn tmps).run P w = .ok (.agg cs) w := by
  have hp2 : tmps[p]?.getD undef = .pointer (some ⟨g, 0, none⟩) := by simpa using hp
  simp only [results, h]
  simp [Sem.run_bind, Result.andThen, hp2, asAddr, run_loadVar_row w g t ty cs fr d hg hu hd hi]
theorem results_cuu {P : Program} {fn : Func} {p u v : Tmp} {ty : TypeId} (h : fn.results = #[.cell p ty, .tmp u, .tmp v]) (tmps : Array Value) (w : World) (g : Nat) (t : TypeId) (cs : Array Value) (fr : Nat × Nat) (d : TypeDesc)
    (hp : tmps.getD p undef = .pointer (some ⟨g, 0, none⟩)) (hg : w.heap[g]? = some (.cells cs t fr))
    (hu : P.underlying ty = some d) (hd : (match d with | .struct _ | .array _ _ => true | _ => false) = true) (hi : (P.info? ty).map (·.size) = some cs.size) :
    (results fn tmps).run P w = .ok (.tuple #[.agg cs, tmps.getD u undef, tmps.getD v undef]) w := by
  have hp2 : tmps[p]?.getD undef = .pointer (some ⟨g, 0, none⟩) := by simpa using hp
  simp only [results, h]
  simp [Sem.run_bind, Result.andThen, hp2, asAddr, run_loadVar_row w g t ty cs fr d hg hu hd hi]
theorem cells2 {w : World} {b t : Nat} {a0 a1 v0 v1 : Value} (h : w.heap[b]? = some (.cells #[a0, a1] t (0, 0))) :
    ((w.setCell ⟨b, 0, none⟩ v0).setCell ⟨b, 1, none⟩ v1).heap[b]? = some (.cells #[v0, v1] t (0, 0)) := by
  have := heap_setCell (o := 1) (heap_setCell (o := 0) h v0) v1
  simpa using this
theorem upd2 {w : World} {b : Nat} {v0 v1 : Value} : Upd (fun i => i = b) w ((w.setCell ⟨b, 0, none⟩ v0).setCell ⟨b, 1, none⟩ v1) :=
  Upd.setCell (Upd.setCell (Upd.refl (fun i => i = b) w) (p := ⟨b, 0, none⟩) (fun _ => rfl) _) (p := ⟨b, 1, none⟩) (fun _ => rfl) _
/-- three boxes that Split begins with -/
structure B3 (w wb : World) (xb : Nat) (lo hi : ByteArray) : Prop where
  b0 : wb.heap[xb]? = some (.cells #[.string lo, .string hi] 24 (0, 0))
  b1 : wb.heap[xb + 1]? = some (.cells #[.string ⟨#[]⟩, .string ⟨#[]⟩] 24 (0, 0))
  b2 : wb.heap[xb + 1 + 1]? = some (.cells #[.string ⟨#[]⟩, .string ⟨#[]⟩] 24 (0, 0))
  upd : Upd (fun _ => False) w wb
  at0 : w.heap.size = xb
theorem b3_make (w : World) (lo hi : ByteArray) : B3 w (((w.alloc (.cells #[.string lo, .string hi] 24)).alloc (.cells #[.string ⟨#[]⟩, .string ⟨#[]⟩] 24)).alloc (.cells #[.string ⟨#[]⟩, .string ⟨#[]⟩] 24)) w.heap.size lo hi := by
  have h1 := heap_alloc (w := w) (.cells #[.string lo, .string hi] 24)
  have h2 := heap_alloc (w := w.alloc (.cells #[.string lo, .string hi] 24)) (.cells #[.string ⟨#[]⟩, .string ⟨#[]⟩] 24)
  have h3 := heap_alloc (w := (w.alloc (.cells #[.string lo, .string hi] 24)).alloc (.cells #[.string ⟨#[]⟩, .string ⟨#[]⟩] 24)) (.cells #[.string ⟨#[]⟩, .string ⟨#[]⟩] 24)
  have u2 : Upd (fun _ => False) (w.alloc (.cells #[.string lo, .string hi] 24)) ((w.alloc (.cells #[.string lo, .string hi] 24)).alloc (.cells #[.string ⟨#[]⟩, .string ⟨#[]⟩] 24)) := (Upd.refl _ _).alloc _
  have u3 : Upd (fun _ => False) ((w.alloc (.cells #[.string lo, .string hi] 24)).alloc (.cells #[.string ⟨#[]⟩, .string ⟨#[]⟩] 24)) (((w.alloc (.cells #[.string lo, .string hi] 24)).alloc (.cells #[.string ⟨#[]⟩, .string ⟨#[]⟩] 24)).alloc (.cells #[.string ⟨#[]⟩, .string ⟨#[]⟩] 24)) := (Upd.refl _ _).alloc _
  simp only [World.size_alloc] at h2 h3
  exact ⟨u3.keep (u2.keep h1 (fun f => f)) (fun f => f), u3.keep h2 (fun f => f), h3, (((Upd.refl _ w).alloc _).alloc _).alloc _, rfl⟩
theorem B3.next {w wb wc : World} {xb : Nat} {lo hi : ByteArray} (h : B3 w wb xb lo hi) (hu : Upd (fun _ => False) wb wc) : B3 w wc xb lo hi :=
  ⟨hu.keep h.b0 (fun f => f), hu.keep h.b1 (fun f => f), hu.keep h.b2 (fun f => f), h.upd.trans hu (fun _ _ f => f), h.at0⟩
theorem B3.fin {w wb : World} {xb : Nat} {lo hi : ByteArray} (h : B3 w wb xb lo hi) (a b c d : Value) :
    ((((wb.setCell ⟨xb + 1, 0, none⟩ a).setCell ⟨xb + 1, 1, none⟩ b).setCell ⟨xb + 1 + 1, 0, none⟩ c).setCell ⟨xb + 1 + 1, 1, none⟩ d).heap[xb + 1]? = some (.cells #[a, b] 24 (0, 0)) ∧
    ((((wb.setCell ⟨xb + 1, 0, none⟩ a).setCell ⟨xb + 1, 1, none⟩ b).setCell ⟨xb + 1 + 1, 0, none⟩ c).setCell ⟨xb + 1 + 1, 1, none⟩ d).heap[xb + 1 + 1]? = some (.cells #[c, d] 24 (0, 0)) ∧
    Upd (fun _ => False) w ((((wb.setCell ⟨xb + 1, 0, none⟩ a).setCell ⟨xb + 1, 1, none⟩ b).setCell ⟨xb + 1 + 1, 0, none⟩ c).setCell ⟨xb + 1 + 1, 1, none⟩ d) := by
  have h1 := cells2 (v0 := a) (v1 := b) h.b1
  have u1 : Upd (fun i => i = xb + 1) wb ((wb.setCell ⟨xb + 1, 0, none⟩ a).setCell ⟨xb + 1, 1, none⟩ b) := upd2
  have h2 := u1.keep h.b2 (by omega)
  have u2 : Upd (fun i => i = xb + 1 + 1) ((wb.setCell ⟨xb + 1, 0, none⟩ a).setCell ⟨xb + 1, 1, none⟩ b) ((((wb.setCell ⟨xb + 1, 0, none⟩ a).setCell ⟨xb + 1, 1, none⟩ b).setCell ⟨xb + 1 + 1, 0, none⟩ c).setCell ⟨xb + 1 + 1, 1, none⟩ d) := upd2
  have hz := h.at0
  exact ⟨u2.keep h1 (by omega), cells2 h2, (h.upd.trans u1 (fun i hi e => by omega)).trans u2 (fun i hi e => by omega)⟩
set_option maxHeartbeats 1000000 in
set_option maxRecDepth 100000 in
theorem split_ok (lo hi k : ByteArray) (w : World) (hl : lo.size ≤ 9223372036854775807) (hh : hi.size ≤ 9223372036854775807) (hk : k.size ≤ 24) (hc : checkB lo hi = true) (hle : leB k lo = false) (hhas : hasB lo hi k = true) :
    Calls Try.prog 20 #[.agg #[.string lo, .string hi], .string k] w (PureUpd (.tuple #[.agg #[.string lo, .string k], .agg #[.string k, .string hi], .int .i64 0]) w) := by
  have HB := Lib.hid (b3_make w lo hi)
  have HC : Hid (∀ w', Calls Try.prog 19 #[.agg #[.string lo, .string hi]] w' (PureUpd (.int .i64 0) w')) := fun w' => by
    have h := check_any lo hi w' hl hh
    rw [hc, if_pos rfl] at h
    exact h
  have HH : Hid (∀ w', Calls Try.prog 33 #[.agg #[.string lo, .string hi], .string k] w' (PureUpd (.bool true) w')) := fun w' => by
    have h := has_any lo hi k w'
    rw [hhas] at h
    exact h
  have h24 : ¬ (24 : Int) < (k.size : Int) := by omega
  unfold leB at hle
  have h6 : ¬ (Op.bytesLess k.toList lo.toList = true ∨ k.toList = lo.toList) := by simpa using hle
  clear hc hhas hl hh hk
  go_enter Try.func20, Try.ntmps20
  go_upto_region 1 with fail
  generalize ((w.alloc (.cells #[.string lo, .string hi] 24)).alloc (.cells #[.string ⟨#[]⟩, .string ⟨#[]⟩] 24)).alloc (.cells #[.string ⟨#[]⟩, .string ⟨#[]⟩] 24) = wb at *
  generalize w.heap.size = xb at *
  obtain ⟨p0, p1, _, _⟩ := box2 HB.out.b0
  go_wp2_with fail
  refine (HC.out _).mono ?_
  rintro e w1 ⟨rfl, hu1⟩
  have HB1 := Lib.hid (HB.out.next hu1)
  clear p0 p1 hu1
  obtain ⟨p0, p1, _, _⟩ := box2 HB1.out.b0
  go_wp2_with fail
  refine (HH.out _).mono ?_
  rintro e w2 ⟨rfl, hu2⟩
  have HB2 := Lib.hid (HB1.out.next hu2)
  clear p0 p1 hu2
  obtain ⟨p0, p1, _, _⟩ := box2 HB2.out.b0
  obtain ⟨q0, q1, q2, q3⟩ := box2 HB2.out.b1
  obtain ⟨r0, r1, r2, r3⟩ := box2 HB2.out.b2
  go_upto_region 3 with fail
  go_region_with (fail)
  all_goals go_wp2_with fail
  all_goals
    obtain ⟨f1, f2, f3⟩ := (HB2.out.next (Upd.refl (fun _ => False) w2).drew).fin (.string lo) (.string k) (.string k) (.string hi)
    refine bodyPost_ret (results_ccu rfl _ _ (xb + 1) (xb + 1 + 1) 24 _ _ (0, 0) _ rfl rfl f1 f2 Try.underlying24 rfl (by kernel_rfl) (by kernel_rfl)) rfl ?_
    exact ⟨rfl, f3⟩
end Go.Proofs.Ytkkickalleelkaa
