/- A state in memory; two states that are alike. -/
import Derived.Test.YtgkegfgdpekehaaGreatMf
import Derived.Test.YtgkegfgdpekehaaGreatEa
import Derived.Outline
namespace Go.Proofs.YtgkegfgdpekehaaGreat
open Go.RowKit Go.Acre Go.Acre.Dk

def flatP (l : List PF) : List Value := l.flatMap fun f => [.int .u64 (f.id : Nat), .string f.low, .string f.high, .int .i64 f.cells]
theorem flatP_cons (f : PF) (l : List PF) : flatP (f :: l) = [.int .u64 (f.id : Nat), .string f.low, .string f.high, .int .i64 f.cells] ++ flatP l := rfl
theorem flatP_append (a b : List PF) : flatP (a ++ b) = flatP a ++ flatP b := List.flatMap_append
theorem flatP_len (l : List PF) : (flatP l).length = l.length * 4 := by
  induction l with
  | nil => rfl
  | cons f r ih => rw [flatP_cons, List.length_append, ih, List.length_cons]; simp; omega
theorem flatP_at (l : List PF) (i : Nat) (h : i < l.length) : (flatP l)[i * 4]? = some (.int .u64 (l[i].id : Nat)) ∧ (flatP l)[i * 4 + 1]? = some (.string l[i].low) ∧ (flatP l)[i * 4 + 2]? = some (.string l[i].high) ∧ (flatP l)[i * 4 + 3]? = some (.int .i64 l[i].cells) := by
  induction l generalizing i with
  | nil => cases h
  | cons f r ih =>
    rw [flatP_cons]
    cases i with
    | zero => exact ⟨rfl, rfl, rfl, rfl⟩
    | succ i =>
      obtain ⟨a, b, c, d⟩ := ih i (by simpa using h)
      have e1 : (i + 1) * 4 = i * 4 + 4 := by omega
      rw [e1]
      refine ⟨?_, ?_, ?_, ?_⟩
      · rw [List.getElem?_append_right (by simp)]; simpa using a
      · rw [List.getElem?_append_right (by simp)]; simpa using b
      · rw [List.getElem?_append_right (by simp)]; simpa using c
      · rw [List.getElem?_append_right (by simp)]; simpa using d
theorem flatP_cell (l : List PF) : ∀ u ∈ flatP l, u.oneCell' = true := by
  intro u hu
  obtain ⟨f, _, hf⟩ := List.mem_flatMap.1 hu
  simp only [List.mem_cons, List.not_mem_nil, or_false] at hf
  rcases hf with rfl | rfl | rfl | rfl <;> rfl
theorem flatP_take (l : List PF) (m : Nat) : flatP (l.take m) = (flatP l).take (m * 4) := by
  induction l generalizing m with
  | nil => simp [flatP]
  | cons f r ih =>
    cases m with
    | zero => simp [flatP]
    | succ m =>
      rw [List.take_succ_cons, flatP_cons, flatP_cons, ih, show (m + 1) * 4 = m * 4 + 4 from by omega]
      simp
/-- a slice that holds a level's files -/
def LevAt (w : World) (v : Value) (l : List PF) : Prop := RowAt w 4 v l.length (flatP l)
theorem LevAt.upd0 {w w' : World} {v : Value} {l : List PF} (h : LevAt w v l) (hu : Upd (fun _ => False) w w') : LevAt w' v l := RowAt.upd0 h hu
theorem LevAt.cell {w : World} {a : Option Addr} {n cap : Nat} {l : List PF} (h : LevAt w (.slice a n cap) l) {i : Nat} (hi : i < l.length) :
    ∃ g o, a = some ⟨g, o, none⟩ ∧ w.cell? ⟨g, o + i * 4, none⟩ = some (.int .u64 (l[i].id : Nat)) ∧ w.cell? ⟨g, o + i * 4 + 1, none⟩ = some (.string l[i].low) ∧ w.cell? ⟨g, o + i * 4 + 2, none⟩ = some (.string l[i].high) ∧ w.cell? ⟨g, o + i * 4 + 3, none⟩ = some (.int .i64 l[i].cells) := by
  obtain ⟨hl, a', c', hv, _, _, _, hc⟩ := h
  simp only [Value.slice.injEq] at hv
  obtain ⟨rfl, rfl, rfl⟩ := hv
  have hlen := flatP_len l
  obtain ⟨g, o, hg, hcell⟩ := hc (by intro e; rw [e] at hlen; simp at hlen; omega)
  obtain ⟨x, y, z, u⟩ := flatP_at l i hi
  exact ⟨g, o, hg, by rw [hcell _ (by omega)]; exact x, by rw [Nat.add_assoc, hcell _ (by omega)]; exact y, by rw [Nat.add_assoc, hcell _ (by omega)]; exact z, by rw [Nat.add_assoc, hcell _ (by omega)]; exact u⟩
theorem LevAt.slice {w : World} {v : Value} {l : List PF} (h : LevAt w v l) : ∃ a cap, v = .slice a l.length cap ∧ l.length ≤ cap ∧ cap ≤ maxLen := by
  obtain ⟨_, a, cap, rfl, h1, h2, _⟩ := h
  exact ⟨a, cap, rfl, h1, h2⟩
/-- a slice whose elements are slices that hold the levels -/
def LevsAt (w : World) (v : Value) (ls : List (List PF)) : Prop := ∃ vs : List Value, RowAt w 1 v ls.length vs ∧ ∀ i (hi : i < ls.length), ∃ u, vs[i]? = some u ∧ LevAt w u ls[i]
theorem LevsAt.upd0 {w w' : World} {v : Value} {ls : List (List PF)} (h : LevsAt w v ls) (hu : Upd (fun _ => False) w w') : LevsAt w' v ls := by
  obtain ⟨vs, h1, h2⟩ := h
  exact ⟨vs, RowAt.upd0 h1 hu, fun i hi => by obtain ⟨u, a, b⟩ := h2 i hi; exact ⟨u, a, b.upd0 hu⟩⟩
theorem LevsAt.slice {w : World} {v : Value} {ls : List (List PF)} (h : LevsAt w v ls) : ∃ a cap, v = .slice a ls.length cap ∧ ls.length ≤ cap ∧ cap ≤ maxLen := by
  obtain ⟨vs, ⟨_, a, cap, rfl, h1, h2, _⟩, _⟩ := h
  exact ⟨a, cap, rfl, h1, h2⟩
theorem LevsAt.cell {w : World} {a : Option Addr} {n cap : Nat} {ls : List (List PF)} (h : LevsAt w (.slice a n cap) ls) {i : Nat} (hi : i < ls.length) :
    ∃ g o la lc, a = some ⟨g, o, none⟩ ∧ w.cell? ⟨g, o + i, none⟩ = some (.slice la ls[i].length lc) ∧ LevAt w (.slice la ls[i].length lc) ls[i] ∧ ls[i].length ≤ lc ∧ lc ≤ maxLen := by
  obtain ⟨vs, ⟨hl, a', c', hv, _, _, _, hc⟩, h2⟩ := h
  simp only [Value.slice.injEq] at hv
  obtain ⟨rfl, rfl, rfl⟩ := hv
  obtain ⟨u, hu, hlev⟩ := h2 i hi
  obtain ⟨la, lc, rfl, h3, h4⟩ := hlev.slice
  obtain ⟨g, o, hg, hcell⟩ := hc (by intro e; rw [e] at hu; cases hu)
  refine ⟨g, o, la, lc, hg, ?_, hlev, h3, h4⟩
  rw [hcell i (by omega), hu]
theorem LevsAt.nil (w : World) : LevsAt w (.slice none 0 0) [] := ⟨[], RowAt.nil w 1, fun i hi => by cases hi⟩
/-- a state's struct -/
def agS (s : MSt) (v : Value) : Value := .agg #[.int .u64 (s.next : Nat), .int .u64 (s.log : Nat), v]
def StAt (w : World) (v : Value) (s : MSt) : Prop := LevsAt w v s.levels
/-- the box of a state that was handed in -/
theorem box_cells {w : World} {xb : Nat} {a b c : Value} (h : w.heap[xb]? = some (.cells #[a, b, c] 28 (0, 0))) : w.cell? ⟨xb, 0, none⟩ = some a ∧ w.cell? ⟨xb, 1, none⟩ = some b ∧ w.cell? ⟨xb, 2, none⟩ = some c :=
  ⟨cell_of_heap h 0, cell_of_heap h 1, cell_of_heap h 2⟩
set_option maxHeartbeats 4000000 in
set_option maxRecDepth 100000 in
theorem rsame_state {w : World} {x y : Nat} {a b : Option Addr} {n ca cb : Nat} {ls : List (List PF)} (hn : n = ls.length) (h1 : LevsAt w (.slice a n ca) ls) (h2 : LevsAt w (.slice b n cb) ls) :
    Calls Tryz.prog 10 #[.agg #[.int .u64 (x : Nat), .int .u64 (y : Nat), .slice a n ca], .agg #[.int .u64 (x : Nat), .int .u64 (y : Nat), .slice b n cb]] w (Fresh true w) := by
  have hu1 : Upd (fun _ => False) w ((w.alloc (.cells #[.int .u64 (x : Nat), .int .u64 (y : Nat), .slice a n ca] 28)).alloc (.cells #[.int .u64 (x : Nat), .int .u64 (y : Nat), .slice b n cb] 28)) := ((Upd.refl _ w).alloc _).alloc _
  have hx1 : ((w.alloc (.cells #[.int .u64 (x : Nat), .int .u64 (y : Nat), .slice a n ca] 28)).alloc (.cells #[.int .u64 (x : Nat), .int .u64 (y : Nat), .slice b n cb] 28)).heap[w.heap.size]? = some (.cells #[.int .u64 (x : Nat), .int .u64 (y : Nat), .slice a n ca] 28 (0, 0)) := heap_alloc2_old _ _ _
  have hx2 : ((w.alloc (.cells #[.int .u64 (x : Nat), .int .u64 (y : Nat), .slice a n ca] 28)).alloc (.cells #[.int .u64 (x : Nat), .int .u64 (y : Nat), .slice b n cb] 28)).heap[w.heap.size + 1]? = some (.cells #[.int .u64 (x : Nat), .int .u64 (y : Nat), .slice b n cb] 28 (0, 0)) := heap_alloc2_new _ _ _
  have hnb : n ≤ 9223372036854775807 := by
    obtain ⟨_, _, e, h3, h4⟩ := h1.slice
    unfold maxLen at h4
    omega
  have H1 := Lib.hid (h1.upd0 hu1)
  have H2 := Lib.hid (h2.upd0 hu1)
  have HN := Lib.hid hn
  have HU := Lib.hid hu1
  have HX1 := Lib.hid hx1
  have HX2 := Lib.hid hx2
  clear h1 h2 hn hu1 hx1 hx2
  go_enter Tryz.func10, Tryz.ntmps10
  go_upto_region 1 with fail
  generalize (w.alloc (.cells #[.int .u64 (x : Nat), .int .u64 (y : Nat), .slice a n ca] 28)).alloc (.cells #[.int .u64 (x : Nat), .int .u64 (y : Nat), .slice b n cb] 28) = wb at *
  generalize w.heap.size = xb at *
  obtain ⟨p0, p1, p2⟩ := box_cells HX1.out
  obtain ⟨q0, q1, q2⟩ := box_cells HX2.out
  go_wp2_with fail
  go_loopw [5] (fun i wr => ∃ k : Nat, i = .int .i64 k ∧ k ≤ n ∧ Upd (fun _ => False) wb wr) (fun i _ => n - (intOf i).toNat)
  case atStart => exact ⟨0, rfl, by omega, Upd.refl _ _⟩
  case round =>
    obtain ⟨k, rfl, hk, hu⟩ := hrel
    have r1 := cell_upd hu p2 (fun f => f)
    have r2 := cell_upd hu q2 (fun f => f)
    by_cases hlt : k < n
    · have hks : k < ls.length := by rw [← HN.out]; exact hlt
      obtain ⟨g, o, la, lc, rfl, c1, l1, m1, m2⟩ := H1.out.cell hks
      obtain ⟨g2, o2, la2, lc2, rfl, c2, l2, _, _⟩ := H2.out.cell hks
      have d1 := cell_upd hu c1 (fun f => f)
      have d2 := cell_upd hu c2 (fun f => f)
      have hlt2 : (k : Int) < (n : Int) := by omega
      have hk0 : (0 : Int) ≤ (k : Int) := by omega
      have L1 := Lib.hid (l1.upd0 hu)
      have L2 := Lib.hid (l2.upd0 hu)
      clear c1 c2 l1 l2
      generalize ls[k] = l at *
      have hlb : l.length ≤ 9223372036854775807 := by unfold maxLen at m2; omega
      go_wp2_with fail
      go_quiet (fail)
      go_wp2_with fail
      go_loopw [6] (fun i ws => ∃ j : Nat, i = .int .i64 j ∧ j ≤ l.length ∧ Upd (fun _ => False) wr ws) (fun i _ => l.length - (intOf i).toNat)
      case atStart => exact ⟨0, rfl, by omega, (Upd.refl _ _).drewN _⟩
      case round =>
        obtain ⟨j, rfl, hj, hu2⟩ := hrel
        have s1 := cell_upd hu2 r1 (fun f => f)
        have s2 := cell_upd hu2 r2 (fun f => f)
        have t1 := cell_upd hu2 d1 (fun f => f)
        have t2 := cell_upd hu2 d2 (fun f => f)
        by_cases hjl : j < l.length
        · obtain ⟨g3, o3, rfl, c0, c1, c2, c3⟩ := (L1.out.upd0 hu2).cell hjl
          obtain ⟨g4, o4, rfl, e0, e1, e2, e3⟩ := (L2.out.upd0 hu2).cell hjl
          have hj0 : (0 : Int) ≤ (j : Int) := by omega
          have hj1 : (j : Int) < (l.length : Int) := by omega
          generalize l[j] = f at *
          go_wp2_with fail
          go_quiet (fail)
          go_wp2_with fail
          exact ⟨⟨j + 1, by go_num, by omega, hu2.drewN _⟩, by simp [intOf]; omega⟩
        · have hge : ¬ (j : Int) < (l.length : Int) := by omega
          go_wp2_with fail
          exact ⟨⟨k + 1, by go_num, by omega, hu.trans hu2 (fun _ _ f => f)⟩, by simp [intOf]; omega⟩
    · have hge : ¬ (k : Int) < (n : Int) := by omega
      go_wp2_with fail
      go_ret
      exact ⟨rfl, HU.out.trans hu (fun _ _ f => f)⟩
end Go.Proofs.YtgkegfgdpekehaaGreat
/- The walks of Own and short: a state in memory of its own. -/
namespace Go.Proofs.YtgkegfgdpekehaaGreat
open Go.RowKit Go.Acre Go.Acre.Dk
theorem info93 : (Tryz.prog.info? 72).map (fun i => (i.zero, i.size, i.bytes)) = some (some (.agg #[.int .u64 0, .string ⟨#[]⟩, .string ⟨#[]⟩, .int .i64 0]), 4, 48) := by kernel_rfl
theorem info94 : (Tryz.prog.info? 70).map (fun i => (i.zero, i.size, i.bytes)) = some (some (.slice none 0 0), 1, 24) := by kernel_rfl
/-- levels in a row of the call's own, each in a row of its own -/
def OutAt (w : World) (B : Nat) (v : Value) (ls : List (List PF)) : Prop := ∃ vs, w.ownsRow B 70 1 v ls.length vs ∧ ∀ i (hi : i < ls.length), ∃ u, vs[i]? = some u ∧ w.ownsRow B 72 4 u ls[i].length (flatP ls[i])
theorem OutAt.levs {w : World} {B : Nat} {v : Value} {ls : List (List PF)} (h : OutAt w B v ls) : LevsAt w v ls := by
  obtain ⟨vs, h1, h2⟩ := h
  exact ⟨vs, RowAt.of_own h1, fun i hi => by obtain ⟨u, a, b⟩ := h2 i hi; exact ⟨u, a, RowAt.of_own b⟩⟩
theorem OutAt.nil (w : World) (B : Nat) : OutAt w B (.slice none 0 0) [] := ⟨[], World.ownsRow_nil _ _ _ _, fun i hi => by cases hi⟩
/-- a row's block has the row's type -/
theorem owns_type {w : World} {B : Nat} {e : TypeId} {size : Nat} {v : Value} {n : Nat} {xs : List Value} (h : w.ownsRow B e size v n xs) {g : Nat} (hg : v.ownBlock = some g) : ∃ cur, w.heap[g]? = some (.cells cur e (0, 0)) := by
  rcases h.2 with ⟨rfl, _⟩ | ⟨g', cap, cur, rfl, _, hh, _⟩
  · simp [Value.ownBlock] at hg
  · simp [Value.ownBlock] at hg
    subst hg
    exact ⟨cur, hh⟩
theorem owns_apart {w : World} {B C : Nat} {e f : TypeId} {s1 s2 : Nat} {v u : Value} {n m : Nat} {xs ys : List Value} (h1 : w.ownsRow B e s1 v n xs) (h2 : w.ownsRow C f s2 u m ys) (hef : e ≠ f) : ∀ g, v.ownBlock = some g → u.ownBlock ≠ some g := by
  intro g hg hu
  obtain ⟨c1, e1⟩ := owns_type h1 hg
  obtain ⟨c2, e2⟩ := owns_type h2 hu
  rw [e1] at e2
  simp at e2
  exact hef e2.2
theorem owns_base {w : World} {b c : Nat} {e : TypeId} {size n : Nat} {v : Value} {xs : List Value} (h : w.ownsRow c e size v n xs) (hb : b ≤ c) : w.ownsRow b e size v n xs := by
  obtain ⟨h1, h2⟩ := h
  exact ⟨h1, h2.imp id (fun ⟨x, cap, cur, e, hx, r⟩ => ⟨x, cap, cur, e, Nat.le_trans hb hx, r⟩)⟩
theorem owns_take {w : World} {B : Nat} {e : TypeId} {size n : Nat} {a : Option Addr} {cap : Nat} {xs : List Value} (h : w.ownsRow B e size (.slice a n cap) n xs) (m : Nat) (hm : m ≤ n) : w.ownsRow B e size (.slice a m cap) m (xs.take (m * size)) := by
  obtain ⟨h1, h2⟩ := h
  refine ⟨by rw [List.length_take, h1]; exact Nat.min_eq_left (Nat.mul_le_mul_right _ hm), ?_⟩
  rcases h2 with ⟨hv, h0⟩ | ⟨g, cap', cur, hv, hb, hg, r1, r2, r3, r4⟩
  · left
    simp only [Value.slice.injEq] at hv
    obtain ⟨rfl, _, rfl⟩ := hv
    have : m = 0 := by omega
    subst this
    exact ⟨rfl, rfl⟩
  · right
    simp only [Value.slice.injEq] at hv
    obtain ⟨rfl, _, rfl⟩ := hv
    refine ⟨g, cap, cur, rfl, hb, hg, by omega, r2, r3, ?_⟩
    rw [← r4, List.take_take, Nat.min_eq_left (Nat.mul_le_mul_right _ hm)]
theorem OutAt.upd {w w' : World} {B : Nat} {v : Value} {ls : List (List PF)} (h : OutAt w B v ls) {S : Nat → Prop} (hu : Upd S w w') (hS : ∀ k, S k → k < B) : OutAt w' B v ls := by
  obtain ⟨vs, h1, h2⟩ := h
  refine ⟨vs, owns_upd h1 hu (fun g hg s => by have := (h1.lt g hg).1; have := hS g s; omega), fun i hi => ?_⟩
  obtain ⟨u, a, b⟩ := h2 i hi
  exact ⟨u, a, owns_upd b hu (fun g hg s => by have := (b.lt g hg).1; have := hS g s; omega)⟩
theorem OutAt.base {w : World} {b c : Nat} {v : Value} {ls : List (List PF)} (h : OutAt w c v ls) (hb : b ≤ c) : OutAt w b v ls := by
  obtain ⟨vs, h1, h2⟩ := h
  exact ⟨vs, owns_base h1 hb, fun i hi => by obtain ⟨u, p, q⟩ := h2 i hi; exact ⟨u, p, owns_base q hb⟩⟩
/-- what turns blocks of states leaves the levels -/
theorem OutAt.upd45 {w w' : World} {B : Nat} {v : Value} {ls : List (List PF)} (h : OutAt w B v ls) {S : Nat → Prop} (hu : Upd S w w') (hS : ∀ k, S k → ∃ cs, w.heap[k]? = some (.cells cs 28 (0, 0))) : OutAt w' B v ls := by
  have hap : ∀ {e : TypeId} {s n : Nat} {u : Value} {xs : List Value}, e ≠ 28 → w.ownsRow B e s u n xs → ∀ g, u.ownBlock = some g → ¬ S g := by
    intro e s n u xs he hr g hg hs
    obtain ⟨c1, e1⟩ := owns_type hr hg
    obtain ⟨c2, e2⟩ := hS g hs
    rw [e1] at e2
    simp at e2
    exact he e2.2
  obtain ⟨vs, h1, h2⟩ := h
  refine ⟨vs, owns_upd h1 hu (hap (by decide) h1), fun i hi => ?_⟩
  obtain ⟨u, a, b⟩ := h2 i hi
  exact ⟨u, a, owns_upd b hu (hap (by decide) b)⟩
/-- one more level -/
theorem OutAt.snoc {w w2 : World} {B : Nat} {v v2 u : Value} {ls : List (List PF)} {l : List PF} {vs : List Value} (h1 : w.ownsRow B 70 1 v ls.length vs) (h2 : ∀ i (hi : i < ls.length), ∃ u, vs[i]? = some u ∧ w.ownsRow B 72 4 u ls[i].length (flatP ls[i]))
    (hu : w.ownsRow B 72 4 u l.length (flatP l)) (h3 : w2.ownsRow B 70 1 v2 (ls.length + 1) (vs ++ [u])) (hg : w.grownBy w2 v.ownBlock) : OutAt w2 B v2 (ls ++ [l]) := by
  have hup : Upd (fun k => v.ownBlock = some k) w w2 := (Upd.refl (fun k => v.ownBlock = some k) w).of_grown hg (fun k hk _ => hk)
  have hvl : vs.length = ls.length := by simpa using h1.1
  refine ⟨vs ++ [u], by simpa using h3, fun i hi => ?_⟩
  by_cases hil : i < ls.length
  · obtain ⟨x, a, b⟩ := h2 i hil
    refine ⟨x, by rw [List.getElem?_append_left (by omega)]; exact a, ?_⟩
    rw [List.getElem_append_left hil]
    exact owns_upd b hup (fun g hg2 s => owns_apart b h1 (by decide) g hg2 s)
  · have e : i = ls.length := by simp at hi; omega
    subst e
    refine ⟨u, by rw [List.getElem?_append_right (by omega), hvl]; simp, ?_⟩
    rw [List.getElem_append_right (Nat.le_refl _)]
    simp only [Nat.sub_self, List.getElem_cons_zero]
    exact owns_upd hu hup (fun g hg2 s => owns_apart hu h1 (by decide) g hg2 s)
theorem slc_alloc {w : World} (u : Value) : RowAt (w.alloc (.cells #[u] 70)) 1 (.slice (some ⟨w.heap.size, 0, none⟩) 1 1) 1 [u] := by
  refine ⟨rfl, some ⟨w.heap.size, 0, none⟩, 1, rfl, Nat.le_refl _, by unfold maxLen; omega, (fun e => by cases e), fun _ => ⟨w.heap.size, 0, rfl, fun i hi => ?_⟩⟩
  rw [cell_of_heap (heap_alloc (w := w) (.cells #[u] 70)) (0 + i), Nat.zero_add]
  simp
theorem take_snoc' (ls : List (List PF)) {k : Nat} (h : k < ls.length) : ls.take (k + 1) = ls.take k ++ [ls[k]] := List.take_succ_eq_append_getElem h
def OwnPost (x y : Nat) (ls : List (List PF)) (w : World) (e : Ending) (w' : World) : Prop := ∃ v, e = .returned (.agg #[.int .u64 (x : Nat), .int .u64 (y : Nat), v]) ∧ OutAt w' w.heap.size v ls ∧ Upd (fun _ => False) w w'
set_option maxHeartbeats 4000000 in
set_option maxRecDepth 100000 in
theorem own_any {w : World} {x y : Nat} {a : Option Addr} {n ca : Nat} {ls : List (List PF)} (hn : n = ls.length) (h1 : LevsAt w (.slice a n ca) ls) (hb : n ≤ 1000000) (hlb : ∀ l ∈ ls, l.length * 48 ≤ 140737488355328) :
    Calls Tryz.prog 32 #[.agg #[.int .u64 (x : Nat), .int .u64 (y : Nat), .slice a n ca]] w (OwnPost x y ls w) := by
  obtain ⟨i0, hi, hz0, hz1, hz2⟩ := info_parts info93
  obtain ⟨j0, hj, hy0, hy1, hy2⟩ := info_parts info94
  have hu1 : Upd (fun _ => False) w ((w.alloc (.cells #[.int .u64 (x : Nat), .int .u64 (y : Nat), .slice a n ca] 28)).alloc (.cells #[.int .u64 0, .int .u64 0, .slice none 0 0] 28)) := ((Upd.refl _ w).alloc _).alloc _
  have hx1 : ((w.alloc (.cells #[.int .u64 (x : Nat), .int .u64 (y : Nat), .slice a n ca] 28)).alloc (.cells #[.int .u64 0, .int .u64 0, .slice none 0 0] 28)).heap[w.heap.size]? = some (.cells #[.int .u64 (x : Nat), .int .u64 (y : Nat), .slice a n ca] 28 (0, 0)) := heap_alloc2_old _ _ _
  have hx2 : ((w.alloc (.cells #[.int .u64 (x : Nat), .int .u64 (y : Nat), .slice a n ca] 28)).alloc (.cells #[.int .u64 0, .int .u64 0, .slice none 0 0] 28)).heap[w.heap.size + 1]? = some (.cells #[.int .u64 0, .int .u64 0, .slice none 0 0] 28 (0, 0)) := heap_alloc2_new _ _ _
  have H1 := Lib.hid (h1.upd0 hu1)
  have HN := Lib.hid hn
  have HU := Lib.hid hu1
  have HX1 := Lib.hid hx1
  have HX2 := Lib.hid hx2
  have HLB := Lib.hid hlb
  clear h1 hn hu1 hx1 hx2 hlb
  go_enter Tryz.func32, Tryz.ntmps32
  go_upto_region 1 with fail
  generalize (w.alloc (.cells #[.int .u64 (x : Nat), .int .u64 (y : Nat), .slice a n ca] 28)).alloc (.cells #[.int .u64 0, .int .u64 0, .slice none 0 0] 28) = wb at *
  generalize hxb : w.heap.size = xb at *
  have HXB := Lib.hid hxb
  clear hxb
  obtain ⟨p0, p1, p2⟩ := box_cells HX1.out
  go_upto_region 2 with fail
  have hob := heap_alloc (w := wb) (.cells #[.int .u64 (x : Nat), .int .u64 (y : Nat), .slice none 0 0] 28)
  have hu2 : Upd (fun _ => False) wb (wb.alloc (.cells #[.int .u64 (x : Nat), .int .u64 (y : Nat), .slice none 0 0] 28)) := (Upd.refl _ wb).alloc _
  have HU2 := Lib.hid hu2
  have hxl : xb + 1 < wb.heap.size := lt_of_heap HX2.out
  have HOB := Lib.hid hob
  clear hob hu2 p0 p1 p2
  generalize wb.alloc (.cells #[.int .u64 (x : Nat), .int .u64 (y : Nat), .slice none 0 0] 28) = wc at *
  generalize hob0 : wb.heap.size = ob at *
  have HWB := Lib.hid hob0
  clear hob0
  go_wp2_with fail
  go_loopw [4, 5] (fun i l5 wr => ∃ (k : Nat) (v : Value), i = .int .i64 k ∧ k ≤ n ∧ wr.heap[ob]? = some (.cells #[.int .u64 (x : Nat), .int .u64 (y : Nat), v] 28 (0, 0)) ∧ OutAt wr (ob + 1) v (ls.take k) ∧ Upd (fun _ => False) wb wr ∧ ob < wr.heap.size) (fun i _ _ => n - (intOf i).toNat)
  case atStart => exact ⟨0, _, rfl, by omega, HOB.out, OutAt.nil _ _, HU2.out, lt_of_heap HOB.out⟩
  case round =>
    obtain ⟨k, v, rfl, hk, hb1, ho, hu, hobl⟩ := hrel
    have hb2 := hu.keep HX1.out (fun f => f)
    obtain ⟨p0, p1, p2⟩ := box_cells hb2
    by_cases hlt : k < n
    · have hks : k < ls.length := by rw [← HN.out]; exact hlt
      obtain ⟨g, o, la, lc, rfl, c1, l1, m1, m2⟩ := H1.out.cell hks
      have d1 := cell_upd hu c1 (fun f => f)
      have hlt2 : (k : Int) < (n : Int) := by omega
      have hlen := HLB.out ls[k] (List.getElem_mem hks)
      have HTK := Lib.hid (take_snoc' ls hks)
      have L1 := Lib.hid (l1.upd0 hu)
      clear c1 l1
      generalize ls[k] = l at *
      have hlm : l.length ≤ maxLen := by omega
      go_wp2_with (at_builtin; refine wpList_append_row rfl _ _ 70 rfl wr.heap.size 72 i0 (.agg #[.int .u64 0, .string ⟨#[]⟩, .string ⟨#[]⟩, .int .i64 0]) 4 48 Tryz.underlying70 hi hz0 hz1 hz2 rfl (by decide) _ _ _ rfl (World.ownsRow_nil _ _ _ _) _ _ _ rfl L1.out ?c2 ?c3 ?c4 ?c5 ?_)
      case c2 => exact flatP_cell _
      case c3 => omega
      case c4 => omega
      case c5 => exact Nat.le_refl _
      intro u w2 hown2 hg2
      have hu2 : Upd (fun _ => False) wr w2 := (Upd.refl _ wr).of_grown hg2 (fun j hj _ => by cases hj)
      have hu3 : Upd (fun _ => False) w2 (w2.alloc (.cells #[u] 70)) := (Upd.refl _ w2).alloc _
      have hou := (owns_base hown2 (show ob + 1 ≤ wr.heap.size from hobl))
      have hou3 := owns_upd hou hu3 (fun _ _ f => f)
      have hoo := (ho.upd hu2 (fun _ f => f.elim)).upd hu3 (fun _ f => f.elim)
      obtain ⟨ua, uc, rfl⟩ := (RowAt.of_own hou).slice
      have hb3 := hu3.keep (hu2.keep hb1 (fun f => f)) (fun f => f)
      have hb1' := hu2.keep hb1 (fun f => f)
      obtain ⟨_, _, q2⟩ := box_cells hb1'
      obtain ⟨vs, hv1, hv2⟩ := hoo
      have htl : (ls.take k).length = k := by rw [List.length_take]; exact Nat.min_eq_left (by omega)
      have HV2 := Lib.hid hv2
      have HV1 := Lib.hid hv1
      have HOU3 := Lib.hid hou3
      have HB3 := Lib.hid hb3
      have HUU := Lib.hid ((hu.trans hu2 (fun _ _ f => f)).trans hu3 (fun _ _ f => f))
      have hw2s : ob < w2.heap.size := Nat.lt_of_lt_of_le hobl hu2.size
      clear hv1 hv2 hou hou3 hb3 hown2 hg2 hu2 hu3 ho hb1 hb1' hb2 p0 p1 p2 d1
      go_wp2_with (at_builtin; refine wpList_append_row rfl _ _ 26 rfl (ob + 1) 70 j0 (.slice none 0 0) 1 24 Tryz.underlying26 hj hy0 hy1 hy2 rfl (by decide) v _ vs rfl HV1.out _ 1 [.slice ua l.length uc] rfl (slc_alloc _) ?c2 ?c3 ?c4 ?c5 ?_)
      case c2 => intro z hz; simp at hz; subst hz; rfl
      case c3 => rw [htl]; unfold maxLen; omega
      case c4 => rw [htl]; omega
      case c5 => simp; omega
      intro v2 w3 hown3 hg3
      obtain ⟨a2, c2, rfl⟩ := (RowAt.of_own hown3).slice
      have hout := OutAt.snoc HV1.out HV2.out HOU3.out (by rw [htl]; exact hown3) hg3
      rw [← HTK.out] at hout
      have hu4 : Upd (fun k => k ≠ ob) (w2.alloc (.cells #[.slice ua l.length uc] 70)) w3 := (Upd.refl _ _).of_grown hg3 (fun j hj _ e => by have := (HV1.out.lt j hj).1; omega)
      have hu5 : Upd (fun _ => False) wb w3 := (HUU.out).of_grown hg3 (fun j hj hjw => by have := (HV1.out.lt j hj).1; have := HWB.out; omega)
      have hb4 := hu4.keep HB3.out (fun f => f rfl)
      have r2 := cell_of_heap hb4 2
      have z2 := frozen_of_heap hb4 2 none
      simp only [List.getElem?_toArray, List.getElem?_cons_zero, List.getElem?_cons_succ] at r2
      have hb5 := heap_setCell (o := 2) hb4 (.slice a2 (k + 1) c2)
      have hu6 : Upd (fun i => i = ob) w3 (w3.setCell ⟨ob, 2, none⟩ (.slice a2 (k + 1) c2)) := upd1
      have HOUT := Lib.hid (hout.upd hu6 (fun k e => by omega))
      have HB5 := Lib.hid hb5
      have HU6 := Lib.hid hu6
      have HU5 := Lib.hid hu5
      have hls : ob < (w3.setCell ⟨ob, 2, none⟩ (.slice a2 (k + 1) c2)).heap.size := lt_of_heap hb5
      clear hout hb4 hb5 hu6 hu5 hu4 hown3 hg3 q2
      go_wp2_with fail
      exact ⟨⟨k + 1, .slice a2 (k + 1) c2, by go_num, by omega, by simpa using HB5.out, HOUT.out, HU5.out.trans HU6.out (fun i hi e => by have := HWB.out; omega), hls⟩, by simp [intOf]; omega⟩
    · have hge : ¬ (k : Int) < (n : Int) := by omega
      have hkn : ls.take k = ls := List.take_of_length_le (by have := HN.out; omega)
      rw [hkn] at ho
      obtain ⟨va, vc, rfl, _, _⟩ := ho.levs.slice
      have hb3 := hu.keep HX2.out (fun f => f)
      obtain ⟨q0, q1, q2⟩ := box_cells hb1
      obtain ⟨t0, t1, t2⟩ := box_cells hb3
      have z0 := frozen_of_heap hb3 0 none
      have z1 := frozen_of_heap hb3 1 none
      have z2 := frozen_of_heap hb3 2 none
      have HB3 := Lib.hid hb3
      have HO := Lib.hid ho
      clear hb3 hb1 ho hkn
      go_wp2_with fail
      try simp only [Exit.inBlock, Exit.then]
      refine bodyPost_ret (results_cell_row rfl _ _ (xb + 1) 28 _ (0, 0) _ rfl (cells3 HB3.out) Tryz.underlying28 rfl (by kernel_rfl)) rfl ?_
      exact ⟨_, rfl, (HO.out.upd (S := fun i => i = xb + 1) upd3 (fun k e => by omega)).base (by have := HXB.out; omega), (HU.out.trans hu (fun _ _ f => f)).trans (upd3 (b := xb + 1)) (fun i hi e => by have := HXB.out; omega)⟩
/-- the first levels, of each the first files -/
def shortL (ls : List (List PF)) : List (List PF) := (ls.take 9).map (·.take 40)
theorem LevsAt.take {w : World} {a : Option Addr} {n cap : Nat} {ls : List (List PF)} (h : LevsAt w (.slice a n cap) ls) (hn : n = ls.length) (m : Nat) (hm : m ≤ n) : LevsAt w (.slice a m cap) (ls.take m) := by
  obtain ⟨vs, ⟨hl, a', c', hv, h1, h2, h3, hc⟩, h4⟩ := h
  simp only [Value.slice.injEq] at hv
  obtain ⟨rfl, _, rfl⟩ := hv
  have e : (ls.take m).length = m := by rw [List.length_take]; exact Nat.min_eq_left (by omega)
  refine ⟨vs.take m, ⟨?_, a, cap, by rw [e], by omega, h2, h3, fun hne => ?_⟩, fun i hi => ?_⟩
  · rw [List.length_take, hl, e]; omega
  · obtain ⟨g, o, hg, hcell⟩ := hc (fun e => hne (by rw [e]; simp))
    refine ⟨g, o, hg, fun i hi => ?_⟩
    rw [List.length_take] at hi
    rw [hcell i (by omega), List.getElem?_take, if_pos (by omega)]
  · obtain ⟨u, p, q⟩ := h4 i (by omega)
    refine ⟨u, by rw [List.getElem?_take, if_pos (by omega)]; exact p, ?_⟩
    rw [List.getElem_take]
    exact q
/-- a level of the row is cut -/
theorem OutAt.cut {w : World} {B : Nat} {a : Option Addr} {cap : Nat} {ls : List (List PF)} (h : OutAt w B (.slice a ls.length cap) ls) {k : Nat} (hk : k < ls.length) (m : Nat) :
    ∃ g la lc, a = some ⟨g, 0, none⟩ ∧ B ≤ g ∧ w.cell? ⟨g, k, none⟩ = some (.slice la ls[k].length lc) ∧ w.frozen? ⟨g, k, none⟩ = false ∧ ls[k].length ≤ lc ∧ lc ≤ maxLen ∧
      (m ≤ ls[k].length → OutAt (w.setCell ⟨g, k, none⟩ (.slice la m lc)) B (.slice a ls.length cap) (ls.set k (ls[k].take m))) := by
  obtain ⟨vs, h1, h2⟩ := h
  obtain ⟨u, p, q⟩ := h2 k hk
  obtain ⟨la, lc, rfl⟩ := (RowAt.of_own q).slice
  have hb : ls[k].length ≤ lc ∧ lc ≤ maxLen := by
    obtain ⟨_, _, _, hv, h5, h6, _⟩ := RowAt.of_own q
    simp only [Value.slice.injEq] at hv
    obtain ⟨_, _, rfl⟩ := hv
    exact ⟨h5, h6⟩
  have h1' := h1
  obtain ⟨hl, h3⟩ := h1'
  rcases h3 with ⟨hv, h0⟩ | ⟨g, cap', cur, hv, hB, hg, r1, r2, r3, r4⟩
  · omega
  · simp only [Value.slice.injEq] at hv
    obtain ⟨rfl, _, rfl⟩ := hv
    have hcur : cur[k]? = some (.slice la ls[k].length lc) := by
      have := p
      rw [← r4, List.getElem?_take] at this
      split at this
      · simpa using this
      · cases this
    refine ⟨g, la, lc, rfl, hB, by rw [cell_of_heap hg]; exact hcur, frozen_of_heap hg k none, hb.1, hb.2, fun hm => ?_⟩
    have hup : Upd (fun i => i = g) w (w.setCell ⟨g, k, none⟩ (.slice la m lc)) := upd1
    have hap : ∀ (u : Value) (l : List PF), w.ownsRow B 72 4 u l.length (flatP l) → (w.setCell ⟨g, k, none⟩ (.slice la m lc)).ownsRow B 72 4 u l.length (flatP l) := fun u l hu => owns_upd hu hup (fun g2 hg2 e => owns_apart hu h1 (by decide) g2 hg2 (by subst e; rfl))
    refine ⟨vs.set k (.slice la m lc), by
      rw [List.length_set]
      refine ⟨by rw [List.length_set]; exact hl, .inr ⟨g, cap, _, rfl, hB, heap_setCell hg _, r1, r2, by simpa using r3, ?_⟩⟩
      rw [Array.toList_setIfInBounds, List.take_set, r4], fun i hi => ?_⟩
    · simp only [List.length_set] at hi
      by_cases e : i = k
      · subst e
        refine ⟨.slice la m lc, by rw [List.getElem?_set_self (by rw [hl]; omega)], ?_⟩
        rw [List.getElem_set_self]
        have hcut := owns_take q m hm
        rw [← flatP_take] at hcut
        have e2 : (ls[i].take m).length = m := by rw [List.length_take]; exact Nat.min_eq_left hm
        have := hap (.slice la m lc) (ls[i].take m) (by rw [e2]; exact hcut)
        exact this
      · obtain ⟨x, p2, q2⟩ := h2 i hi
        refine ⟨x, by rw [List.getElem?_set_ne (by omega)]; exact p2, ?_⟩
        rw [List.getElem_set_ne (by omega)]
        exact hap x _ q2
end Go.Proofs.YtgkegfgdpekehaaGreat
/- The walk of short. -/
namespace Go.Proofs.YtgkegfgdpekehaaGreat
open Go.RowKit Go.Acre Go.Acre.Dk
def cutTo (L : List (List PF)) (k : Nat) : List (List PF) := (L.take k).map (·.take 40) ++ L.drop k
theorem cutTo_len (L : List (List PF)) (k : Nat) (h : k ≤ L.length) : (cutTo L k).length = L.length := by
  unfold cutTo
  rw [List.length_append, List.length_map, List.length_take, List.length_drop]
  omega
theorem cutTo_get (L : List (List PF)) (k : Nat) (h : k < L.length) : ∃ hk : k < (cutTo L k).length, (cutTo L k)[k] = L[k] := by
  refine ⟨by rw [cutTo_len L k (by omega)]; exact h, ?_⟩
  have hl : ((L.take k).map (·.take 40)).length = k := by rw [List.length_map, List.length_take]; omega
  have : (cutTo L k)[k]? = L[k]? := by
    unfold cutTo
    rw [List.getElem?_append_right (by omega), hl, Nat.sub_self, List.getElem?_drop, Nat.add_zero]
  rw [List.getElem?_eq_getElem (by rw [cutTo_len L k (by omega)]; exact h), List.getElem?_eq_getElem h] at this
  exact Option.some.inj this
theorem cutTo_next (L : List (List PF)) (k : Nat) (h : k < L.length) : (cutTo L k).set k (L[k].take 40) = cutTo L (k + 1) := by
  have hl : ((L.take k).map (·.take 40)).length = k := by rw [List.length_map, List.length_take]; omega
  unfold cutTo
  rw [List.take_succ_eq_append_getElem h, List.drop_eq_getElem_cons h, List.map_append, List.set_append_right _ _ (by omega), hl, Nat.sub_self, List.set_cons_zero]
  simp
def ShortPost (x y : Nat) (ls : List (List PF)) (w : World) (e : Ending) (w' : World) : Prop := ∃ a cap, e = .returned (.agg #[.int .u64 (x : Nat), .int .u64 (y : Nat), .slice a (shortL ls).length cap]) ∧ LevsAt w' (.slice a (shortL ls).length cap) (shortL ls) ∧ Upd (fun _ => False) w w'
def ShortOut (x y : Nat) (ls : List (List PF)) (w : World) (e : Ending) (w' : World) : Prop := ∃ a cap, e = .returned (.agg #[.int .u64 (x : Nat), .int .u64 (y : Nat), .slice a (shortL ls).length cap]) ∧ OutAt w' w.heap.size (.slice a (shortL ls).length cap) (shortL ls) ∧ Upd (fun _ => False) w w'
set_option maxHeartbeats 4000000 in
set_option maxRecDepth 100000 in
theorem short_out {w : World} {x y : Nat} {a : Option Addr} {n ca : Nat} {ls : List (List PF)} (hn : n = ls.length) (h1 : LevsAt w (.slice a n ca) ls) (hlb : ∀ l ∈ ls, l.length * 48 ≤ 140737488355328) :
    Calls Tryz.prog 12 #[.agg #[.int .u64 (x : Nat), .int .u64 (y : Nat), .slice a n ca]] w (ShortOut x y ls w) := by
  have hu1 : Upd (fun _ => False) w ((w.alloc (.cells #[.int .u64 (x : Nat), .int .u64 (y : Nat), .slice a n ca] 28)).alloc (.cells #[.int .u64 0, .int .u64 0, .slice none 0 0] 28)) := ((Upd.refl _ w).alloc _).alloc _
  have hx1 : ((w.alloc (.cells #[.int .u64 (x : Nat), .int .u64 (y : Nat), .slice a n ca] 28)).alloc (.cells #[.int .u64 0, .int .u64 0, .slice none 0 0] 28)).heap[w.heap.size]? = some (.cells #[.int .u64 (x : Nat), .int .u64 (y : Nat), .slice a n ca] 28 (0, 0)) := heap_alloc2_old _ _ _
  have hx2 : ((w.alloc (.cells #[.int .u64 (x : Nat), .int .u64 (y : Nat), .slice a n ca] 28)).alloc (.cells #[.int .u64 0, .int .u64 0, .slice none 0 0] 28)).heap[w.heap.size + 1]? = some (.cells #[.int .u64 0, .int .u64 0, .slice none 0 0] 28 (0, 0)) := heap_alloc2_new _ _ _
  have hnb : n ≤ ca ∧ ca ≤ 9223372036854775807 := by
    obtain ⟨_, _, e, h3, h4⟩ := h1.slice
    simp only [Value.slice.injEq] at e
    obtain ⟨_, _, rfl⟩ := e
    unfold maxLen at h4
    omega
  obtain ⟨m, hm⟩ : ∃ m : Nat, min (n : Int) 9 = (m : Int) := ⟨min n 9, by omega⟩
  have hmn : m ≤ n := by omega
  have hm9 : m ≤ 9 := by omega
  have hmc : (m : Int) ≤ (ca : Int) := by omega
  have H0 := Lib.hid h1
  have HN := Lib.hid hn
  have HU := Lib.hid hu1
  have HX1 := Lib.hid hx1
  have HX2 := Lib.hid hx2
  have HLB := Lib.hid hlb
  have HTK : Hid (ls.take 9 = ls.take m) := by
    show _ = _
    by_cases h9 : n ≤ 9
    · rw [List.take_of_length_le (by omega), List.take_of_length_le (by omega)]
    · have : m = 9 := by omega
      rw [this]
  clear h1 hn hu1 hx1 hx2 hlb
  go_enter Tryz.func12, Tryz.ntmps12
  go_upto_region 1 with fail
  generalize (w.alloc (.cells #[.int .u64 (x : Nat), .int .u64 (y : Nat), .slice a n ca] 28)).alloc (.cells #[.int .u64 0, .int .u64 0, .slice none 0 0] 28) = wb at *
  generalize hxb : w.heap.size = xb at *
  have HXB := Lib.hid hxb
  clear hxb
  obtain ⟨p0, p1, p2⟩ := box_cells HX1.out
  have z2 := frozen_of_heap HX1.out 2 none
  go_upto_region 2 with fail
  have hw1 : Upd (fun _ => False) w (wb.setCell ⟨xb, 2, none⟩ (.slice a m ca)) := HU.out.trans upd1 (fun i hi e => by have := HXB.out; omega)
  have hb1 := heap_setCell (o := 2) HX1.out (.slice a m ca)
  have hb2 := (upd1 (b := xb) (o := 2) (v := .slice a m ca)).keep HX2.out (by omega)
  have HW1 := Lib.hid hw1
  have HB1 : Hid ((wb.setCell ⟨xb, 2, none⟩ (.slice a m ca)).heap[xb]? = some (.cells #[.int .u64 (x : Nat), .int .u64 (y : Nat), .slice a m ca] 28 (0, 0))) := by show _ = _; simpa using hb1
  have HB2 := Lib.hid hb2
  clear hw1 hb1 hb2 p0 p1 p2 z2
  generalize wb.setCell ⟨xb, 2, none⟩ (.slice a m ca) = w1 at *
  obtain ⟨p0, p1, p2⟩ := box_cells HB1.out
  have htl : m = (ls.take m).length := by rw [List.length_take]; have := HN.out; omega
  have HTL := Lib.hid htl
  clear htl
  go_wp2_with fail
  refine (own_any HTL.out ((H0.out.upd0 HW1.out).take HN.out m hmn) (by omega) (fun l hl => HLB.out l (List.mem_of_mem_take hl))).mono ?_
  rintro e w2 ⟨v, rfl, ho, hu2⟩
  obtain ⟨va, vc, rfl, hv1, hv2⟩ := ho.levs.slice
  rw [← HTL.out] at ho hv1 ⊢
  have hb3 := hu2.keep HB1.out (fun f => f)
  have hb4 := hu2.keep HB2.out (fun f => f)
  obtain ⟨q0, q1, q2⟩ := box_cells hb3
  have z0 := frozen_of_heap hb3 0 none
  have z1 := frozen_of_heap hb3 1 none
  have z2 := frozen_of_heap hb3 2 none
  have hb5 := cells3 (v0 := .int .u64 (x : Nat)) (v1 := .int .u64 (y : Nat)) (v2 := .slice va m vc) hb3
  have hu5 : Upd (fun i => i = xb) w2 _ := upd3 (b := xb) (v0 := .int .u64 (x : Nat)) (v1 := .int .u64 (y : Nat)) (v2 := .slice va m vc)
  have hx1l : xb + 1 < w1.heap.size := lt_of_heap HB2.out
  have HO := Lib.hid (ho.upd hu5 (fun k e => by omega))
  have HB5 := Lib.hid hb5
  have HB6 := Lib.hid (hu5.keep hb4 (by omega))
  have HU5 := Lib.hid ((HW1.out.trans hu2 (fun _ _ f => f)).trans hu5 (fun i hi e => by have := HXB.out; omega))
  clear ho hb3 hb4 hb5 hu5 hu2 p0 p1 p2
  go_upto_region 3 with fail
  clear q0 q1 q2 z0 z1 z2
  generalize ((w2.setCell ⟨xb, 0, none⟩ (.int .u64 (x : Nat))).setCell ⟨xb, 1, none⟩ (.int .u64 (y : Nat))).setCell ⟨xb, 2, none⟩ (.slice va m vc) = w3 at *
  generalize hB0 : w1.heap.size = B at *
  go_wp2_with fail
  go_loopw [3] (fun i wr => ∃ k : Nat, i = .int .i64 k ∧ k ≤ m ∧ wr.heap[xb]? = some (.cells #[.int .u64 (x : Nat), .int .u64 (y : Nat), .slice va m vc] 28 (0, 0)) ∧ wr.heap[xb + 1]? = some (.cells #[.int .u64 0, .int .u64 0, .slice none 0 0] 28 (0, 0)) ∧ OutAt wr B (.slice va m vc) (cutTo (ls.take m) k) ∧ Upd (fun _ => False) w wr) (fun i _ => m - (intOf i).toNat)
  case atStart => exact ⟨0, rfl, by omega, HB5.out, HB6.out, HO.out, HU5.out⟩
  case round =>
    obtain ⟨k, rfl, hk, hb1, hb2, ho, hu⟩ := hrel
    obtain ⟨p0, p1, p2⟩ := box_cells hb1
    by_cases hlt : k < m
    · have hkl : k < (ls.take m).length := by rw [← HTL.out]; exact hlt
      obtain ⟨hkc, hge⟩ := cutTo_get (ls.take m) k hkl
      have hcl : m = (cutTo (ls.take m) k).length := by rw [cutTo_len _ _ (by omega)]; exact HTL.out
      have ho2 : OutAt wr B (.slice va (cutTo (ls.take m) k).length vc) (cutTo (ls.take m) k) := by rw [← hcl]; exact ho
      obtain ⟨m', hm'⟩ : ∃ m' : Nat, min (((ls.take m)[k]).length : Int) 40 = (m' : Int) := ⟨min ((ls.take m)[k]).length 40, by omega⟩
      obtain ⟨g, la, lc, rfl, hBg, c1, f1, m1, m2, hcut⟩ := ho2.cut hkc m'
      rw [hge] at c1 m1 hcut
      have hcut2 := hcut (by omega)
      rw [← hcl] at hcut2
      have htt : ((ls.take m)[k]).take m' = ((ls.take m)[k]).take 40 := by
        by_cases h40 : ((ls.take m)[k]).length ≤ 40
        · rw [List.take_of_length_le (by omega), List.take_of_length_le h40]
        · have : m' = 40 := by omega
          rw [this]
      rw [htt, cutTo_next _ _ hkl] at hcut2
      have hm0 : (m' : Int) ≤ (lc : Int) := by omega
      have hlt2 : (k : Int) < (m : Int) := by omega
      have hk0 : (0 : Int) ≤ (k : Int) := by omega
      have HCUT := Lib.hid hcut2
      have HB7 := Lib.hid hb1
      have HB8 := Lib.hid hb2
      have HU7 := Lib.hid (hu.trans (upd1 (b := g) (o := k) (v := .slice la m' lc)) (fun i hi e => by have := HXB.out; omega))
      have HG : Hid (∀ i, i ≤ xb + 1 → ¬ i = g) := fun i hi e => by omega
      clear hcut hcut2 htt ho ho2 hge hkc hcl hb1 hb2
      generalize ((ls.take m)[k]).length = ll at *
      go_wp2_with fail
      go_still_tail 17, (by kernel_rfl)
      go_wp2_with fail
      exact ⟨⟨k + 1, by go_num, by omega, (upd1 (b := g) (o := k) (v := .slice la m' lc)).keep HB7.out (HG.out _ (by omega)), (upd1 (b := g) (o := k) (v := .slice la m' lc)).keep HB8.out (HG.out _ (by omega)), HCUT.out.upd (Upd.refl (fun _ => False) _).drew (fun _ f => f.elim), HU7.out.drew⟩, by simp [intOf]; omega⟩
    · have hge : ¬ (k : Int) < (m : Int) := by omega
      have hke : k = m := by omega
      have hfin : cutTo (ls.take m) k = shortL ls := by
        unfold cutTo shortL
        rw [HTK.out, List.take_of_length_le (by have := HTL.out; omega), List.drop_eq_nil_of_le (by have := HTL.out; omega), List.append_nil]
      rw [hfin] at ho
      have hsl : m = (shortL ls).length := by unfold shortL; rw [List.length_map, HTK.out]; exact HTL.out
      have hq2 := hb2
      have z0 := frozen_of_heap hb2 0 none
      have z1 := frozen_of_heap hb2 1 none
      have z2 := frozen_of_heap hb2 2 none
      obtain ⟨q0, q1, q2⟩ := box_cells hb2
      have HB3 := Lib.hid hb2
      have HO2 := Lib.hid ho
      have HSL := Lib.hid hsl
      clear hfin hke hb1 hb2 ho hsl hq2
      go_wp2_with fail
      try simp only [Exit.inBlock, Exit.then]
      refine bodyPost_ret (results_cell_row rfl _ _ (xb + 1) 28 _ (0, 0) _ rfl (cells3 HB3.out) Tryz.underlying28 rfl (by kernel_rfl)) rfl ?_
      have hm2 := HSL.out
      subst hm2
      exact ⟨va, vc, rfl, (HO2.out.upd (S := fun i => i = xb + 1) upd3 (fun k e => by omega)).base (by have := HXB.out; omega), hu.trans (upd3 (b := xb + 1)) (fun i hi e => by have := HXB.out; omega)⟩
theorem short_any {w : World} {x y : Nat} {a : Option Addr} {n ca : Nat} {ls : List (List PF)} (hn : n = ls.length) (h1 : LevsAt w (.slice a n ca) ls) (hlb : ∀ l ∈ ls, l.length * 48 ≤ 140737488355328) :
    Calls Tryz.prog 12 #[.agg #[.int .u64 (x : Nat), .int .u64 (y : Nat), .slice a n ca]] w (ShortPost x y ls w) := by
  refine (short_out hn h1 hlb).mono ?_
  rintro e w' ⟨va, vc, h2, h3, h4⟩
  exact ⟨va, vc, h2, h3.levs, h4⟩
end Go.Proofs.YtgkegfgdpekehaaGreat
/- The walks of right. -/
namespace Go.Proofs.YtgkegfgdpekehaaGreat
open Go.RowKit Go.Acre Go.Acre.Dk
def agF (f : PF) : Value := .agg #[.int .u64 (f.id : Nat), .string f.low, .string f.high, .int .i64 f.cells]
theorem right_iff {f : PF} {next : Nat} : rightB f next = true ↔ 1 ≤ f.id ∧ f.id < next ∧ f.low.size ≤ 32 ∧ f.high.size ≤ 32 ∧ bf f.high f.low = false ∧ 1 ≤ f.cells ∧ f.cells ≤ 1073741824 := by
  unfold rightB
  simp only [Bool.and_eq_true, decide_eq_true_eq, Bool.not_eq_true']
  constructor
  · rintro ⟨⟨⟨⟨⟨⟨a, b⟩, c⟩, d⟩, e⟩, g⟩, h⟩
    exact ⟨a, b, c, d, e, g, h⟩
  · rintro ⟨a, b, c, d, e, g, h⟩
    exact ⟨⟨⟨⟨⟨⟨a, b⟩, c⟩, d⟩, e⟩, g⟩, h⟩
theorem le_bf (a b : ByteArray) : (Op.bytesLess a.toList b.toList || a.toList == b.toList) = !bf b a := by
  rw [bf_less, str_eql]
  by_cases h : a = b
  · subst h
    simp [bf_irrefl]
  · rcases bf_total h with h1 | h1
    · rw [h1, bf_asymm h1]; rfl
    · rw [h1, bf_asymm h1]; simp [h]
theorem right_last {f : PF} {next : Nat} (h1 : 1 ≤ f.id) (h2 : f.id < next) (h3 : f.low.size ≤ 32) (h4 : f.high.size ≤ 32) (h5 : bf f.high f.low = false) (h6 : 1 ≤ f.cells) : rightB f next = decide (f.cells ≤ 1073741824) := by
  by_cases h : f.cells ≤ 1073741824
  · rw [right_iff.2 ⟨h1, h2, h3, h4, h5, h6, h⟩]
    simp [h]
  · have : rightB f next = false := Bool.eq_false_iff.2 (fun e => h (right_iff.1 e).2.2.2.2.2.2)
    rw [this]
    simp [h]
set_option maxHeartbeats 4000000 in
set_option maxRecDepth 100000 in
theorem right_any (f : PF) (next : Nat) (w : World) : Calls Tryz.prog 74 #[agF f, .int .u64 (next : Nat)] w (Fresh (rightB f next) w) := by
  unfold agF
  have hle := le_bf f.low f.high
  cases hb : bf f.high f.low with
  | true =>
    rw [hb] at hle
    have hF : rightB f next = false := Bool.eq_false_iff.2 (fun e => by have := (right_iff.1 e).2.2.2.2.1; rw [hb] at this; cases this)
    have HF := Lib.hid hF
    clear hb hF
    go_enter Tryz.func74, Tryz.ntmps74
    go_wp2_with fail
    all_goals go_ret
    all_goals exact ⟨by rw [HF.out]; rfl, (Upd.refl _ w).alloc _⟩
  | false =>
    rw [hb] at hle
    by_cases hh : 1 ≤ f.id ∧ f.id < next ∧ f.low.size ≤ 32 ∧ f.high.size ≤ 32 ∧ 1 ≤ f.cells
    · obtain ⟨h1, h2, h3, h4, h6⟩ := hh
      have HL := Lib.hid (right_last h1 h2 h3 h4 hb h6)
      have i1 : (1 : Int) ≤ (f.id : Int) := by omega
      have i3 : (f.low.size : Int) ≤ 32 := by omega
      have i4 : (f.high.size : Int) ≤ 32 := by omega
      clear hb h1 h3 h4
      go_enter Tryz.func74, Tryz.ntmps74
      go_wp2_with fail
      all_goals go_ret
      all_goals exact ⟨by rw [HL.out]; rfl, (Upd.refl _ w).alloc _⟩
    · have hF : rightB f next = false := Bool.eq_false_iff.2 (fun e => by
        obtain ⟨a, b, c, d, _, g, _⟩ := right_iff.1 e
        exact hh ⟨a, b, c, d, g⟩)
      have HF := Lib.hid hF
      have HH := Lib.hid hh
      clear hb hF hh
      go_enter Tryz.func74, Tryz.ntmps74
      go_wp2_with fail
      all_goals first
        | (exfalso; exact HH.out ⟨by omega, by omega, by omega, by omega, by omega⟩)
        | (go_ret; exact ⟨by rw [HF.out]; rfl, (Upd.refl _ w).alloc _⟩)
end Go.Proofs.YtgkegfgdpekehaaGreat
