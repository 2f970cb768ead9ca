/- The walk of the reference's May. -/
import Derived.Test.YtgkegfgdpekehaaGreatMv
namespace Go.Proofs.YtgkegfgdpekehaaGreat
open Go.RowKit Go.Acre Go.Acre.Dk
theorem info42 : (Tryz.prog.info? 25).map (fun i => (i.zero, i.size, i.bytes)) = some (some (.int .u64 0), 1, 8) := by kernel_rfl
theorem allR_append {next : Nat} : ∀ (a b seen : List (Nat × PF)), allR next seen (a ++ b) = (allR next seen a && allR next (seen ++ a) b)
  | [], b, seen => by simp [allR]
  | x :: a, b, seen => by
    simp only [List.cons_append, allR, allR_append a b (seen ++ [x]), List.append_assoc, List.singleton_append, List.nil_append, Bool.and_assoc]
theorem allR_snoc {next : Nat} (a : List (Nat × PF)) (x : Nat × PF) : allR next [] (a ++ [x]) = (allR next [] a && okR next a x) := by
  rw [allR_append]
  simp [allR]
theorem flat_lt (ls : List (List PF)) (i : Nat) : ∀ y ∈ flatFrom i ls, i ≤ y.1 ∧ y.1 < i + ls.length := by
  induction ls generalizing i with
  | nil => intro y hy; simp [flatFrom] at hy
  | cons l r ih =>
    intro y hy
    unfold flatFrom at hy
    rcases List.mem_append.1 hy with hy | hy
    · obtain ⟨f, _, rfl⟩ := List.mem_map.1 hy
      simp
    · have := ih (i + 1) y hy
      simp only [List.length_cons]
      omega
/-- what has been looked at when k files of level i have been -/
def seenAt (ls : List (List PF)) (i : Nat) (l : List PF) (k : Nat) : List (Nat × PF) := flat (ls.take i) ++ (l.take k).map fun f => (i, f)
theorem seen_zero (ls : List (List PF)) (i : Nat) (l : List PF) : seenAt ls i l 0 = flat (ls.take i) := by simp [seenAt]
theorem seen_next (ls : List (List PF)) (i : Nat) (l : List PF) {k : Nat} (h : k < l.length) : seenAt ls i l (k + 1) = seenAt ls i l k ++ [(i, l[k])] := by
  unfold seenAt
  rw [List.take_succ_eq_append_getElem h, List.map_append, List.append_assoc]
  rfl
theorem seen_full (ls : List (List PF)) {i : Nat} (h : i < ls.length) {k : Nat} (hk : ls[i].length ≤ k) : seenAt ls i ls[i] k = flat (ls.take (i + 1)) := by
  unfold seenAt
  rw [List.take_of_length_le hk, flat_take ls h]
theorem seen_len (ls : List (List PF)) (i : Nat) (l : List PF) (k : Nat) (h : k ≤ l.length) : (seenAt ls i l k).length = base ls i + k := by
  unfold seenAt base
  rw [List.length_append, List.length_map, List.length_take, Nat.min_eq_left h]
theorem flat_rest (ls : List (List PF)) {i k : Nat} (h : i < ls.length) (hk : k < ls[i].length) : ∃ rest, flat ls = seenAt ls i ls[i] k ++ (i, ls[i][k]) :: rest := by
  have h1 := flat_split ls (i + 1)
  rw [flat_take ls h] at h1
  have h2 : ls[i].map (fun f => (i, f)) = (ls[i].take k).map (fun f => (i, f)) ++ (i, ls[i][k]) :: (ls[i].drop (k + 1)).map (fun f => (i, f)) := by
    have h3 := congrArg (List.map fun f => (i, f)) (List.take_append_drop k ls[i]).symm
    rw [List.drop_eq_getElem_cons hk, List.map_append, List.map_cons] at h3
    exact h3
  rw [h2] at h1
  refine ⟨(ls[i].drop (k + 1)).map (fun f => (i, f)) ++ flatFrom (ls.take (i + 1)).length (ls.drop (i + 1)), ?_⟩
  rw [h1]
  unfold seenAt
  simp
theorem may_bad {s : MSt} {i k : Nat} (h : i < s.levels.length) (hk : k < s.levels[i].length) (hb : okR s.next (seenAt s.levels i s.levels[i] k) (i, s.levels[i][k]) = false) : mayS s = false := by
  obtain ⟨rest, hr⟩ := flat_rest s.levels h hk
  rw [mayS_ref, hr, allR_append]
  simp only [List.nil_append, allR, hb, Bool.false_and, Bool.and_false]
theorem step_first {ls : List (List PF)} {i : Nat} {l : List PF} {f : PF} (h : i ≤ ls.length) : stepB (seenAt ls i l 0) (i, f) = true := by
  rw [seen_zero]
  refine stepB_other (fun y hy => ?_)
  have := flat_lt (ls.take i) 0 y hy
  rw [List.length_take] at this
  show y.1 ≠ i
  omega
theorem step_on {ls : List (List PF)} {i : Nat} {l : List PF} {f : PF} {k : Nat} (hk : k < l.length) : stepB (seenAt ls i l (k + 1)) (i, f) = (decide (i = 0) || bf l[k].high f.low) := by
  rw [seen_next ls i l hk]
  unfold stepB
  rw [List.getLast?_append]
  simp
def idsOf (seen : List (Nat × PF)) : List Value := seen.map fun y => .int .u64 (y.2.id : Nat)
theorem idsOf_snoc (a : List (Nat × PF)) (x : Nat × PF) : idsOf (a ++ [x]) = idsOf a ++ [.int .u64 (x.2.id : Nat)] := by simp [idsOf]
theorem new_of {seen : List (Nat × PF)} {x : Nat × PF} (h : ∀ j (hj : j < seen.length), seen[j].2.id ≠ x.2.id) : newB seen x = true := by
  unfold newB
  rw [List.all_eq_true]
  intro y hy
  obtain ⟨j, hj, rfl⟩ := List.getElem_of_mem hy
  simpa using h j hj
theorem new_not {seen : List (Nat × PF)} {x : Nat × PF} {j : Nat} (hj : j < seen.length) (h : seen[j].2.id = x.2.id) : newB seen x = false := by
  unfold newB
  rw [List.all_eq_false]
  exact ⟨seen[j], List.getElem_mem hj, by simp [h]⟩
theorem ids_cell {w : World} {B : Nat} {a : Option Addr} {m cap : Nat} {seen : List (Nat × PF)} (h : w.ownsRow B 25 1 (.slice a m cap) m (idsOf seen)) {j : Nat} (hj : j < seen.length) : ∃ g o, a = some ⟨g, o, none⟩ ∧ w.cell? ⟨g, o + j, none⟩ = some (.int .u64 (seen[j].2.id : Nat)) := by
  obtain ⟨hl, a', c', hv, _, _, _, hc⟩ := RowAt.of_own h
  simp only [Value.slice.injEq] at hv
  obtain ⟨rfl, _, rfl⟩ := hv
  have hlen : (idsOf seen).length = seen.length := by simp [idsOf]
  obtain ⟨g, o, hg, hcell⟩ := hc (by intro e; rw [e] at hlen; simp at hlen; omega)
  refine ⟨g, o, hg, ?_⟩
  rw [hcell j (by rw [hlen] at hl; omega)]
  simp [idsOf, List.getElem?_eq_getElem hj]
theorem num_succ (m : Nat) : Value.int .i64 ((m : Int) + 1) = Value.int .i64 ((m + 1 : Nat) : Int) := rfl
theorem meas_succ {m n : Nat} (h : m < n) : n - (intOf (Value.int .i64 ((m : Int) + 1))).toNat < n - (intOf (Value.int .i64 (m : Int))).toNat := by
  show n - ((m : Int) + 1).toNat < n - ((m : Int)).toNat
  omega
theorem ids_next {w : World} {B : Nat} {v : Value} {n n' : Nat} {seen seen' : List (Nat × PF)} {x : Nat × PF} (h : w.ownsRow B 25 1 v (n + 1) (idsOf seen ++ [.int .u64 (x.2.id : Nat)])) (he : seen' = seen ++ [x]) (hn : n' = n + 1) : w.ownsRow B 25 1 v n' (idsOf seen') := by
  subst he hn
  rw [idsOf_snoc]
  exact h
set_option maxHeartbeats 8000000 in
set_option maxRecDepth 100000 in
theorem rmay_any {w : World} {s : MSt} {a : Option Addr} {n ca : Nat} (hn : n = s.levels.length) (hL : LevsAt w (.slice a n ca) s.levels) (hlb : ∀ l ∈ s.levels, l.length ≤ 1000000) :
    Calls Tryz.prog 33 #[.agg #[.int .u64 (s.next : Nat), .int .u64 (s.log : Nat), .slice a n ca]] w (Fresh (mayS s) w) := by
  have hu1 : Upd (fun _ => False) w (w.alloc (.cells #[.int .u64 (s.next : Nat), .int .u64 (s.log : Nat), .slice a n ca] 28)) := (Upd.refl _ w).alloc _
  have hx1 := heap_alloc (w := w) (.cells #[.int .u64 (s.next : Nat), .int .u64 (s.log : Nat), .slice a n ca] 28)
  have HN := Lib.hid hn
  have HU := Lib.hid hu1
  have HX := Lib.hid hx1
  have HL := Lib.hid (hL.upd0 hu1)
  have HLB := Lib.hid hlb
  cases hh : headB s with
  | false =>
    have hF : mayS s = false := by unfold mayS; rw [hh]; rfl
    have HH : Hid (¬ (1 ≤ s.next ∧ s.next ≤ 1099511627776 ∧ 1 ≤ s.log ∧ s.log ≤ 1099511627776 ∧ n ≤ 7)) := fun h => by
      rw [hn] at h
      rw [head_iff.2 h] at hh
      cases hh
    have HF := Lib.hid hF
    clear hn hu1 hx1 hL hlb hh hF
    go_enter Tryz.func33, Tryz.ntmps33
    go_upto_region 1 with fail
    generalize w.alloc (.cells #[.int .u64 (s.next : Nat), .int .u64 (s.log : Nat), .slice a n ca] 28) = wb at *
    generalize w.heap.size = xb at *
    obtain ⟨p0, p1, p2⟩ := box_cells HX.out
    go_upto_region 3 with fail
    all_goals first
      | (exfalso; exact HH.out ⟨by omega, by omega, by omega, by omega, by omega⟩)
      | (go_ret; exact ⟨by rw [HF.out]; rfl, HU.out⟩)
  | true =>
    obtain ⟨q1, q2, q3, q4, q5⟩ := head_iff.1 hh
    have d1 : decide ((s.next : Int) < 1) = false := by simp; omega
    have d2 : decide ((1099511627776 : Int) < (s.next : Int)) = false := by simp; omega
    have d3 : decide ((s.log : Int) < 1) = false := by simp; omega
    have d4 : decide ((1099511627776 : Int) < (s.log : Int)) = false := by simp; omega
    have d5 : decide ((7 : Int) < (n : Int)) = false := by simp; omega
    have hn7 : n ≤ 7 := by omega
    have HH := Lib.hid hh
    clear hn hu1 hx1 hL hlb hh q1 q2 q3 q4 q5
    go_enter Tryz.func33, Tryz.ntmps33
    go_upto_region 1 with fail
    generalize w.alloc (.cells #[.int .u64 (s.next : Nat), .int .u64 (s.log : Nat), .slice a n ca] 28) = wb at *
    generalize hxb : w.heap.size = xb at *
    obtain ⟨p0, p1, p2⟩ := box_cells HX.out
    go_wp2_with fail
    clear d1 d2 d3 d4 d5
    go_loopw [4, 3] (fun i t wr => ∃ k : Nat, i = .int .i64 k ∧ k ≤ n ∧ t = .int .i64 (base s.levels k : Nat) ∧ base s.levels k ≤ k * 1000000 ∧ wb = wr) (fun i _ _ => n - (intOf i).toNat)
    case atStart => exact ⟨0, rfl, by omega, rfl, Nat.zero_le _, rfl⟩
    case round =>
      obtain ⟨k, rfl, hk, rfl, hbk, rfl⟩ := hrel
      by_cases hlt : k < n
      · have hks : k < s.levels.length := by rw [← HN.out]; exact hlt
        obtain ⟨g, o, la, lc, rfl, c1, l1, m1, m2⟩ := HL.out.cell hks
        have hlt2 : (k : Int) < (n : Int) := by omega
        have hk0 : (0 : Int) ≤ (k : Int) := by omega
        have hl6 := HLB.out s.levels[k] (List.getElem_mem hks)
        have HBS := Lib.hid (base_succ s.levels hks)
        clear l1
        generalize s.levels[k].length = ll at *
        have hbk7 : base s.levels k ≤ 7000000 := by omega
        go_wp2_with fail
        exact ⟨⟨k + 1, by go_num, by omega, by rw [HBS.out]; go_num, by rw [HBS.out]; omega, trivial⟩, by simp [intOf]; omega⟩
      · have hge : ¬ (k : Int) < (n : Int) := by omega
        have hall : base s.levels k = (flat s.levels).length := base_all s.levels (by have := HN.out; omega)
        rw [hall]
        have HALL := Lib.hid hall
        clear hall
        by_cases h10 : (flat s.levels).length ≤ 1024
        · have hi10 : ((flat s.levels).length : Int) ≤ 1024 := by omega
          have HF10 := Lib.hid h10
          go_wp2_with fail
          go_loopw [6, 5] (fun i v wr => ∃ k : Nat, i = .int .i64 k ∧ k ≤ n ∧ wr.ownsRow wb.heap.size 25 1 v (base s.levels k) (idsOf (flat (s.levels.take k))) ∧ Hid (allR s.next [] (flat (s.levels.take k)) = true) ∧ Upd (fun _ => False) wb wr) (fun i _ _ => n - (intOf i).toNat)
          case atStart => exact ⟨0, rfl, by omega, World.ownsRow_nil _ _ _ _, rfl, Upd.refl _ _⟩
          case round =>
            obtain ⟨k, rfl, hk, hown, HA, hu⟩ := hrel
            have b2 := cell_upd hu p2 (fun f => f)
            have b0 := cell_upd hu p0 (fun f => f)
            by_cases hlt : k < n
            · have hks : k < s.levels.length := by rw [← HN.out]; exact hlt
              obtain ⟨g, o, la, lc, rfl, c1, l1, m1, m2⟩ := HL.out.cell hks
              have d1 := cell_upd hu c1 (fun f => f)
              have hlt2 : (k : Int) < (n : Int) := by omega
              have hk0 : (0 : Int) ≤ (k : Int) := by omega
              have HBS := Lib.hid (base_succ s.levels hks)
              have HB7 : Hid (base s.levels (k + 1) ≤ 1024) := Nat.le_trans (base_le s.levels (k + 1)) HF10.out
              have HBAD : Hid (∀ m (hm : m < s.levels[k].length), okR s.next (seenAt s.levels k s.levels[k] m) (k, s.levels[k][m]) = false → mayS s = false) := fun m hm h => may_bad hks hm h
              have HFULL : Hid (seenAt s.levels k s.levels[k] s.levels[k].length = flat (s.levels.take (k + 1))) := seen_full s.levels hks (Nat.le_refl _)
              have hlb6 := HLB.out s.levels[k] (List.getElem_mem hks)
              have L1 := Lib.hid l1
              have C1 := Lib.hid c1
              clear l1 c1
              generalize s.levels[k] = l at *
              have HOW := Lib.hid hown
              clear hown
              have hwk : (k : Int) ≤ 7 := by omega
              go_wp2_with fail
              go_loopw [7, 5] (fun j v ws => ∃ m : Nat, j = .int .i64 m ∧ m ≤ l.length ∧ ws.ownsRow wb.heap.size 25 1 v (base s.levels k + m) (idsOf (seenAt s.levels k l m)) ∧ Hid (allR s.next [] (seenAt s.levels k l m) = true) ∧ Upd (fun _ => False) wb ws) (fun j _ _ => l.length - (intOf j).toNat)
              case atStart => exact ⟨0, rfl, by omega, by rw [seen_zero]; exact HOW.out, by show _ = _; rw [seen_zero]; exact HA.out, hu⟩
              case round =>
                obtain ⟨m, rfl, hm, hown, HS, hu2⟩ := hrel
                have y2 := cell_upd hu2 p2 (fun f => f)
                have y0 := cell_upd hu2 p0 (fun f => f)
                have y1 := cell_upd hu2 C1.out (fun f => f)
                by_cases hml : m < l.length
                · have hml2 : (m : Int) < (l.length : Int) := by omega
                  have hm0 : (0 : Int) ≤ (m : Int) := by omega
                  obtain ⟨g3, o3, rfl, e0, e1, e2, e3⟩ := (L1.out.upd0 hu2).cell hml
                  have hbadm := HBAD.out m hml
                  have HSN := Lib.hid (seen_next s.levels k l hml)
                  have hstp : Hid (stepB (seenAt s.levels k l m) (k, l[m]) = (decide (m = 0) || (decide (k = 0) || bf (l[m - 1]'(by omega)).high l[m].low))) := by
                    show _ = _
                    cases m with
                    | zero => rw [step_first (by have := HN.out; omega)]; rfl
                    | succ m' => rw [step_on (by omega)]; simp
                  have hpre : m ≠ 0 → wr.cell? ⟨g3, o3 + (m - 1) * 4 + 2, none⟩ = some (.string (l[m - 1]'(by omega)).high) := fun h0 => by
                    obtain ⟨g9, o9, e9, _, _, c9, _⟩ := (L1.out.upd0 hu2).cell (i := m - 1) (by omega)
                    simp only [Option.some.injEq, Addr.mk.injEq, and_true] at e9
                    obtain ⟨rfl, rfl⟩ := e9
                    exact c9
                  have hsl := seen_len s.levels k l m (Nat.le_of_lt hml)
                  generalize (l[m - 1]'(by omega)).high = ph at *
                  generalize l[m] = f at *
                  generalize hseen : seenAt s.levels k l m = seen at *
                  have HBM := Lib.hid hbadm
                  have HSL := Lib.hid hsl
                  clear hbadm hsl
                  go_upto_region 18 with fail
                  have hua : Upd (fun _ => False) wr (wr.alloc (.cells #[.int .u64 (f.id : Nat), .string f.low, .string f.high, .int .i64 f.cells] 72)) := (Upd.refl _ wr).alloc _
                  have ht := heap_alloc (w := wr) (.cells #[.int .u64 (f.id : Nat), .string f.low, .string f.high, .int .i64 f.cells] 72)
                  have v0 := cell_upd hua y0 (fun f => f)
                  have v1 := cell_upd hua y1 (fun f => f)
                  have v2 := cell_upd hua y2 (fun f => f)
                  have HPRE : Hid (m ≠ 0 → (wr.alloc (.cells #[.int .u64 (f.id : Nat), .string f.low, .string f.high, .int .i64 f.cells] 72)).cell? ⟨g3, o3 + (m - 1) * 4 + 2, none⟩ = some (.string ph)) := fun h0 => cell_upd hua (hpre h0) (fun f => f)
                  have HUN := Lib.hid (hu2.trans hua (fun _ _ f => f))
                  have HOWN := Lib.hid (owns_upd hown hua (fun g hg s => s.elim))
                  clear hua hown hu2 y0 y1 y2 e0 e1 e2 e3 hpre
                  generalize wr.alloc (.cells #[.int .u64 (f.id : Nat), .string f.low, .string f.high, .int .i64 f.cells] 72) = wa at *
                  generalize wr.heap.size = tb at *
                  have k0 := cell_of_heap ht 0
                  have k1 := cell_of_heap ht 1
                  have k2 := cell_of_heap ht 2
                  have k3 := cell_of_heap ht 3
                  simp only [List.getElem?_toArray, List.getElem?_cons_zero, List.getElem?_cons_succ] at k0 k1 k2 k3
                  have hgt := le_bf f.low f.high
                  have HRI := Lib.hid (right_iff (f := f) (next := s.next))
                  by_cases c1 : 1 ≤ f.id
                  case neg =>
                    have HF : Hid (mayS s = false) := by
                      refine HBM.out ?_
                      have hr : rightB f s.next = false := Bool.eq_false_iff.2 (fun e => c1 (HRI.out.1 e).1)
                      unfold okR
                      simp only [hr, Bool.false_and]
                    have i1 : ¬ (1 : Int) ≤ (f.id : Int) := by omega
                    have d1 : decide ((f.id : Int) < 1) = true := by simp; omega
                    clear c1
                    go_wp2_with fail
                    try simp only [Exit.inBlock, Exit.then]
                    go_ret
                    exact ⟨by rw [HF.out]; rfl, HU.out.trans HUN.out (fun _ _ f => f)⟩
                  by_cases c2 : f.id < s.next
                  case neg =>
                    have HF : Hid (mayS s = false) := by
                      refine HBM.out ?_
                      have hr : rightB f s.next = false := Bool.eq_false_iff.2 (fun e => c2 (HRI.out.1 e).2.1)
                      unfold okR
                      simp only [hr, Bool.false_and]
                    have i1 : (1 : Int) ≤ (f.id : Int) := by omega
                    have d1 : decide ((f.id : Int) < 1) = false := by simp; omega
                    have i2 : ¬ (f.id : Int) < (s.next : Int) := by omega
                    have d2 : decide (f.id < s.next) = false := by simp; omega
                    clear c1
                    go_wp2_with fail
                    try simp only [Exit.inBlock, Exit.then]
                    go_ret
                    exact ⟨by rw [HF.out]; rfl, HU.out.trans HUN.out (fun _ _ f => f)⟩
                  by_cases c3 : f.low.size ≤ 32
                  case neg =>
                    have HF : Hid (mayS s = false) := by
                      refine HBM.out ?_
                      have hr : rightB f s.next = false := Bool.eq_false_iff.2 (fun e => c3 (HRI.out.1 e).2.2.1)
                      unfold okR
                      simp only [hr, Bool.false_and]
                    have i1 : (1 : Int) ≤ (f.id : Int) := by omega
                    have d1 : decide ((f.id : Int) < 1) = false := by simp; omega
                    have i2 : (f.id : Int) < (s.next : Int) := by omega
                    have d2 : decide (f.id < s.next) = true := by simp; omega
                    have i3 : ¬ (f.low.size : Int) ≤ 32 := by omega
                    have d3 : decide ((32 : Int) < (f.low.size : Int)) = true := by simp; omega
                    clear c1 c3
                    go_wp2_with fail
                    try simp only [Exit.inBlock, Exit.then]
                    go_ret
                    exact ⟨by rw [HF.out]; rfl, HU.out.trans HUN.out (fun _ _ f => f)⟩
                  by_cases c4 : f.high.size ≤ 32
                  case neg =>
                    have HF : Hid (mayS s = false) := by
                      refine HBM.out ?_
                      have hr : rightB f s.next = false := Bool.eq_false_iff.2 (fun e => c4 (HRI.out.1 e).2.2.2.1)
                      unfold okR
                      simp only [hr, Bool.false_and]
                    have i1 : (1 : Int) ≤ (f.id : Int) := by omega
                    have d1 : decide ((f.id : Int) < 1) = false := by simp; omega
                    have i2 : (f.id : Int) < (s.next : Int) := by omega
                    have d2 : decide (f.id < s.next) = true := by simp; omega
                    have i3 : (f.low.size : Int) ≤ 32 := by omega
                    have d3 : decide ((32 : Int) < (f.low.size : Int)) = false := by simp; omega
                    have i4 : ¬ (f.high.size : Int) ≤ 32 := by omega
                    have d4 : decide ((32 : Int) < (f.high.size : Int)) = true := by simp; omega
                    clear c1 c3 c4
                    go_wp2_with fail
                    try simp only [Exit.inBlock, Exit.then]
                    go_ret
                    exact ⟨by rw [HF.out]; rfl, HU.out.trans HUN.out (fun _ _ f => f)⟩
                  by_cases c5 : bf f.high f.low = false
                  case neg =>
                    have HF : Hid (mayS s = false) := by
                      refine HBM.out ?_
                      have hr : rightB f s.next = false := Bool.eq_false_iff.2 (fun e => c5 (HRI.out.1 e).2.2.2.2.1)
                      unfold okR
                      simp only [hr, Bool.false_and]
                    have i1 : (1 : Int) ≤ (f.id : Int) := by omega
                    have d1 : decide ((f.id : Int) < 1) = false := by simp; omega
                    have i2 : (f.id : Int) < (s.next : Int) := by omega
                    have d2 : decide (f.id < s.next) = true := by simp; omega
                    have i3 : (f.low.size : Int) ≤ 32 := by omega
                    have d3 : decide ((32 : Int) < (f.low.size : Int)) = false := by simp; omega
                    have i4 : (f.high.size : Int) ≤ 32 := by omega
                    have d4 : decide ((32 : Int) < (f.high.size : Int)) = false := by simp; omega
                    have c5t : bf f.high f.low = true := by cases hb : bf f.high f.low with | true => rfl | false => exact absurd hb c5
                    rw [c5t] at hgt
                    have i5 : ¬ (Op.bytesLess f.low.toList f.high.toList = true ∨ f.low.toList = f.high.toList) := fun h => by
                      have h2 : (Op.bytesLess f.low.toList f.high.toList || f.low.toList == f.high.toList) = true := by simpa using h
                      rw [hgt] at h2
                      cases h2
                    clear c5t
                    clear c1 c3 c4 c5
                    go_wp2_with fail
                    try simp only [Exit.inBlock, Exit.then]
                    go_ret
                    exact ⟨by rw [HF.out]; rfl, HU.out.trans HUN.out (fun _ _ f => f)⟩
                  by_cases c6 : 1 ≤ f.cells
                  case neg =>
                    have HF : Hid (mayS s = false) := by
                      refine HBM.out ?_
                      have hr : rightB f s.next = false := Bool.eq_false_iff.2 (fun e => c6 (HRI.out.1 e).2.2.2.2.2.1)
                      unfold okR
                      simp only [hr, Bool.false_and]
                    have i1 : (1 : Int) ≤ (f.id : Int) := by omega
                    have d1 : decide ((f.id : Int) < 1) = false := by simp; omega
                    have i2 : (f.id : Int) < (s.next : Int) := by omega
                    have d2 : decide (f.id < s.next) = true := by simp; omega
                    have i3 : (f.low.size : Int) ≤ 32 := by omega
                    have d3 : decide ((32 : Int) < (f.low.size : Int)) = false := by simp; omega
                    have i4 : (f.high.size : Int) ≤ 32 := by omega
                    have d4 : decide ((32 : Int) < (f.high.size : Int)) = false := by simp; omega
                    rw [c5] at hgt
                    have i5 : Op.bytesLess f.low.toList f.high.toList = true ∨ f.low.toList = f.high.toList := by simpa using hgt
                    have d6 : decide (f.cells < 1) = true := by simp; omega
                    clear c1 c3 c4 c5
                    go_wp2_with fail
                    try simp only [Exit.inBlock, Exit.then]
                    go_ret
                    exact ⟨by rw [HF.out]; rfl, HU.out.trans HUN.out (fun _ _ f => f)⟩
                  by_cases c7 : f.cells ≤ 1073741824
                  case neg =>
                    have HF : Hid (mayS s = false) := by
                      refine HBM.out ?_
                      have hr : rightB f s.next = false := Bool.eq_false_iff.2 (fun e => c7 (HRI.out.1 e).2.2.2.2.2.2)
                      unfold okR
                      simp only [hr, Bool.false_and]
                    have i1 : (1 : Int) ≤ (f.id : Int) := by omega
                    have d1 : decide ((f.id : Int) < 1) = false := by simp; omega
                    have i2 : (f.id : Int) < (s.next : Int) := by omega
                    have d2 : decide (f.id < s.next) = true := by simp; omega
                    have i3 : (f.low.size : Int) ≤ 32 := by omega
                    have d3 : decide ((32 : Int) < (f.low.size : Int)) = false := by simp; omega
                    have i4 : (f.high.size : Int) ≤ 32 := by omega
                    have d4 : decide ((32 : Int) < (f.high.size : Int)) = false := by simp; omega
                    rw [c5] at hgt
                    have i5 : Op.bytesLess f.low.toList f.high.toList = true ∨ f.low.toList = f.high.toList := by simpa using hgt
                    have d6 : decide (f.cells < 1) = false := by simp; omega
                    have d7 : decide ((1073741824 : Int) < f.cells) = true := by simp; omega
                    clear c1 c3 c4 c5
                    go_wp2_with fail
                    try simp only [Exit.inBlock, Exit.then]
                    go_ret
                    exact ⟨by rw [HF.out]; rfl, HU.out.trans HUN.out (fun _ _ f => f)⟩
                  have HR := Lib.hid (HRI.out.2 ⟨c1, c2, c3, c4, c5, c6, c7⟩)
                  have i1 : (1 : Int) ≤ (f.id : Int) := by omega
                  have d1 : decide ((f.id : Int) < 1) = false := by simp; omega
                  have i2 : (f.id : Int) < (s.next : Int) := by omega
                  have d2 : decide (f.id < s.next) = true := by simp; omega
                  have i3 : (f.low.size : Int) ≤ 32 := by omega
                  have d3 : decide ((32 : Int) < (f.low.size : Int)) = false := by simp; omega
                  have i4 : (f.high.size : Int) ≤ 32 := by omega
                  have d4 : decide ((32 : Int) < (f.high.size : Int)) = false := by simp; omega
                  rw [c5] at hgt
                  have i5 : Op.bytesLess f.low.toList f.high.toList = true ∨ f.low.toList = f.high.toList := by simpa using hgt
                  have d6 : decide (f.cells < 1) = false := by simp; omega
                  have d7 : decide ((1073741824 : Int) < f.cells) = false := by simp; omega
                  clear c1 c3 c4 c5
                  go_upto_region 20 with fail
                  clear d1 d2 d3 d4 d6 d7 i1 i2 i3 i4 i5 hgt c2 c6 c7
                  obtain ⟨ia, ic, rfl⟩ := (RowAt.of_own HOWN.out).slice
                  have hi0 : (0 : Int) ≤ (m : Int) - 1 ∨ m = 0 := by omega
                  go_cut [135] (fun b wx => b = .bool (!stepB seen (k, f)) ∧ Upd (fun _ => False) wa wx)
                  case first =>
                    have HST := Lib.hid hstp.out
                    by_cases hk00 : k = 0
                    · have e1 : decide ((0 : Int) < (k : Int)) = false := by simp; omega
                      have e1n : decide (0 < k) = false := by simp; omega
                      have e2n : ¬ 0 < k := by omega
                      have e2 : ¬ (0 : Int) < (k : Int) := by omega
                      have HST2 : Hid (stepB seen (k, f) = true) := by
                        show _ = _
                        rw [HST.out, hk00]
                        simp
                      clear hk00 hi0
                      go_wp2_with fail
                      go_quiet (fail)
                      go_wp2_with fail
                      go_meet
                      case rel => exact ⟨by rw [HST2.out]; rfl, (Upd.refl _ _).drewN _⟩
                    · have e1 : decide ((0 : Int) < (k : Int)) = true := by simp; omega
                      have e1n : decide (0 < k) = true := by simp; omega
                      have e2n : 0 < k := by omega
                      have e2 : (0 : Int) < (k : Int) := by omega
                      by_cases hm00 : m = 0
                      · have e3 : decide ((0 : Int) < (m : Int)) = false := by simp; omega
                        have e3n : decide (0 < m) = false := by simp; omega
                        have e4n : ¬ 0 < m := by omega
                        have e4 : ¬ (0 : Int) < (m : Int) := by omega
                        have HST2 : Hid (stepB seen (k, f) = true) := by
                          show _ = _
                          rw [HST.out, hm00]
                          simp
                        clear hk00 hi0 hm00
                        go_wp2_with fail
                        go_quiet (fail)
                        go_wp2_with fail
                        go_meet
                        case rel => exact ⟨by rw [HST2.out]; rfl, (Upd.refl _ _).drewN _⟩
                      · have e3 : decide ((0 : Int) < (m : Int)) = true := by simp; omega
                        have e3n : decide (0 < m) = true := by simp; omega
                        have e4n : 0 < m := by omega
                        have e4 : (0 : Int) < (m : Int) := by omega
                        have hp := HPRE.out hm00
                        have HST2 : Hid (stepB seen (k, f) = bf ph f.low) := by
                          show _ = _
                          rw [HST.out, decide_eq_false hm00, decide_eq_false hk00]
                          simp
                        obtain ⟨m1, rfl⟩ : ∃ m1, m = m1 + 1 := ⟨m - 1, by omega⟩
                        simp only [Nat.add_sub_cancel] at hp
                        have hms : ((m1 + 1 : Nat) : Int) - 1 = (m1 : Int) := by omega
                        have hms2 : (m1 : Int) + 1 - 1 = (m1 : Int) := by omega
                        have hm1l : (m1 : Int) < (l.length : Int) := by omega
                        have hm10 : (0 : Int) ≤ (m1 : Int) := by omega
                        have hls : Op.bytesLess ph.toList f.low.toList = bf ph f.low := bf_less _ _
                        clear hk00 hi0 hm00
                        generalize bf ph f.low = bb at *
                        go_wp2_with fail
                        go_quiet (fail)
                        go_wp2_with fail
                        go_meet
                        case rel => exact ⟨by rw [HST2.out], (Upd.refl _ _).drewN _⟩
                  case rest =>
                    obtain ⟨rfl, hux⟩ := hcut
                    have x0 := cell_upd hux k0 (fun f => f)
                    have x1 := cell_upd hux v0 (fun f => f)
                    have x2 := cell_upd hux v2 (fun f => f)
                    have x3 := cell_upd hux v1 (fun f => f)
                    have HOWC := Lib.hid (owns_upd HOWN.out hux (fun g hg s => s.elim))
                    have HUC := Lib.hid (HUN.out.trans hux (fun _ _ f => f))
                    clear k0 k1 k2 k3 v0 v1 v2 hux hstp HPRE hi0
                    cases hst : stepB seen (k, f) with
                    | false =>
                      have HF : Hid (mayS s = false) := by
                        refine HBM.out ?_
                        unfold okR
                        rw [hst]
                        simp only [Bool.and_false, Bool.false_and]
                      clear hst
                      go_wp2_with fail
                      try simp only [Exit.inBlock, Exit.then]
                      go_ret
                      exact ⟨by rw [HF.out]; rfl, HU.out.trans HUC.out (fun _ _ f => f)⟩
                    | true =>
                      have HST := Lib.hid hst
                      clear hst
                      have hbm24 : base s.levels k + m ≤ 1024 := by have := HB7.out; have := HBS.out; omega
                      go_wp2_with fail
                      go_loopw [9] (fun j wz => ∃ q : Nat, j = .int .i64 q ∧ q ≤ base s.levels k + m ∧ Hid (∀ r (hr : r < seen.length), r < q → seen[r].2.id ≠ f.id) ∧ Upd (fun _ => False) wc wz) (fun j _ => (base s.levels k + m) - (intOf j).toNat)
                      case atStart => exact ⟨0, rfl, by omega, fun r hr h => absurd h (Nat.not_lt_zero _), Upd.refl _ _⟩
                      case round =>
                        obtain ⟨q, rfl, hq, HNE, huz⟩ := hrel
                        have s0 := cell_upd huz x0 (fun f => f)
                        by_cases hql : q < base s.levels k + m
                        · have hqs : q < seen.length := by rw [HSL.out]; exact hql
                          obtain ⟨g5, o5, rfl, ci⟩ := ids_cell HOWC.out hqs
                          have cj := cell_upd huz ci (fun f => f)
                          have hql2 : (q : Int) < ((base s.levels k + m : Nat) : Int) := by omega
                          have hql3 : (q : Int) < (base s.levels k : Int) + (m : Int) := by omega
                          have hq0 : (0 : Int) ≤ (q : Int) := by omega
                          clear ci
                          by_cases hid : seen[q].2.id = f.id
                          · have HF : Hid (mayS s = false) := by
                              refine HBM.out ?_
                              unfold okR
                              rw [new_not (x := (k, f)) hqs hid, Bool.and_false]
                            rw [hid] at cj
                            clear hid
                            go_wp2_with fail
                            go_quiet (fail)
                            go_wp2_with fail
                            try simp only [Exit.inBlock, Exit.then]
                            go_ret
                            exact ⟨by rw [HF.out]; rfl, (HU.out.trans HUC.out (fun _ _ f => f)).trans (huz.drewN _) (fun _ _ f => f)⟩
                          · have HNE2 : Hid (∀ r (hr : r < seen.length), r < q + 1 → seen[r].2.id ≠ f.id) := fun r hr h => by
                              by_cases e : r = q
                              · subst e; exact hid
                              · exact HNE.out r hr (by omega)
                            generalize seen[q].2.id = iq at *
                            have hid2 : ¬ (iq : Int) = (f.id : Int) := by omega
                            have hid3 : ((iq : Int) == (f.id : Int)) = false := by rw [beq_eq_false_iff_ne]; omega
                            go_wp2_with fail
                            go_quiet (fail)
                            go_wp2_with fail
                            exact ⟨⟨q + 1, by go_num, by omega, HNE2, huz.drewN _⟩, by simp [intOf]; omega⟩
                        · have hge : ¬ (q : Int) < ((base s.levels k + m : Nat) : Int) := by omega
                          have hge2 : ¬ (q : Int) < (base s.levels k : Int) + (m : Int) := by omega
                          have HNEW : Hid (newB seen (k, f) = true) := new_of (x := (k, f)) (fun j hj => HNE.out j hj (by have := HSL.out; omega))
                          have HALL2 : Hid (allR s.next [] (seenAt s.levels k l (m + 1)) = true) := by
                            show _ = _
                            rw [HSN.out, allR_snoc, HS.out, Bool.true_and]
                            unfold okR
                            rw [show rightB (k, f).2 s.next = true from HR.out, HST.out, HNEW.out]
                            rfl
                          have hua2 : Upd (fun _ => False) wr (wr.alloc (.cells #[.int .u64 (f.id : Nat)] 25)) := (Upd.refl _ wr).alloc _
                          have HOWE := Lib.hid (owns_upd HOWC.out (huz.trans hua2 (fun _ _ f => f)) (fun g hg s => s.elim))
                          have HUE := Lib.hid ((HUC.out.trans huz (fun _ _ f => f)).trans hua2 (fun _ _ f => f))
                          have hsz := HUE.out.size
                          have hal := heap_alloc (w := wr) (.cells #[.int .u64 (f.id : Nat)] 25)
                          have HAL : Hid (RowAt (wr.alloc (.cells #[.int .u64 (f.id : Nat)] 25)) 1 (.slice (some ⟨wr.heap.size, 0, none⟩) 1 1) 1 [.int .u64 (f.id : Nat)]) := by
                            refine ⟨rfl, some ⟨wr.heap.size, 0, none⟩, 1, rfl, Nat.le_refl _, by unfold maxLen; omega, (fun e => by cases e), fun _ => ⟨wr.heap.size, 0, rfl, fun i hi => ?_⟩⟩
                            rw [cell_of_heap hal (0 + i), Nat.zero_add]
                            simp
                          clear hua2 huz hal
                          obtain ⟨i0, hi1, hz0, hz1, hz2⟩ := info_parts info42
                          go_wp2_with (at_builtin; refine wpList_append_row rfl _ _ 102 rfl wb.heap.size 25 i0 (.int .u64 0) 1 8 Tryz.underlying102 hi1 hz0 hz1 hz2 rfl (by decide) _ _ _ rfl HOWE.out _ 1 [.int .u64 (f.id : Nat)] rfl HAL.out ?c2 ?c3 ?c4 ?c5 ?_)
                          case c2 => first | rfl | (intro z hz; simp at hz; subst hz; rfl)
                          case c3 => unfold maxLen; omega
                          case c4 => omega
                          case c5 => first | exact hsz | (simp only [World.size_alloc] at hsz ⊢; omega)
                          intro v9 w9 hown9 hg9
                          have hu9 := HUE.out.of_grown hg9 (fun j hj hjw => by have := (HOWE.out.lt j hj).1; omega)
                          have hbq : base s.levels k + (m + 1) = base s.levels k + m + 1 := (Nat.add_assoc _ _ _).symm
                          have HOW9 := Lib.hid (ids_next hown9 HSN.out hbq)
                          clear hbq
                          have HU9 := Lib.hid hu9
                          clear hown9 hg9 hu9
                          go_wp2_with fail
                          exact ⟨⟨m + 1, num_succ m, hml, HOW9.out, HALL2.out, HU9.out⟩, meas_succ hml⟩
                · have hge : ¬ (m : Int) < (l.length : Int) := by omega
                  have hme : m = l.length := by omega
                  subst hme
                  have HOW2 := Lib.hid hown
                  have HU2 := Lib.hid hu2
                  clear hown hu2
                  go_wp2_with fail
                  exact ⟨⟨k + 1, by go_num, by omega, by rw [HBS.out, ← HFULL.out]; exact HOW2.out, by show _ = _; rw [← HFULL.out]; exact HS.out, HU2.out⟩, by simp [intOf]; omega⟩
            · have hge : ¬ (k : Int) < (n : Int) := by omega
              have HF : Hid (mayS s = true) := by
                show _ = _
                have h1 := HA.out
                rw [List.take_of_length_le (by have := HN.out; omega)] at h1
                rw [mayS_ref, HH.out, h1]
                simp [HF10.out]
              clear hown
              go_wp2_with fail
              go_ret
              exact ⟨by rw [HF.out]; rfl, HU.out.trans hu (fun _ _ f => f)⟩
        · have hi10 : ¬ ((flat s.levels).length : Int) ≤ 1024 := by omega
          have HF : Hid (mayS s = false) := by
            show _ = _
            rw [mayS_ref]
            simp [h10]
          clear h10
          go_wp2_with fail
          go_ret
          exact ⟨by rw [HF.out]; rfl, HU.out⟩
end Go.Proofs.YtgkegfgdpekehaaGreat
/- The walk of the reference's Check. -/
namespace Go.Proofs.YtgkegfgdpekehaaGreat
open Go.RowKit Go.Acre Go.Acre.Dk
end Go.Proofs.YtgkegfgdpekehaaGreat
/- The walk of the reference's Encode. -/
namespace Go.Proofs.YtgkegfgdpekehaaGreat
open Go.RowKit Go.Acre Go.Acre.Dk
set_option maxHeartbeats 8000000 in
set_option maxRecDepth 100000 in
theorem rencode_any {w : World} {s : MSt} {a : Option Addr} {n ca : Nat} (hn : n = s.levels.length) (hL : LevsAt w (.slice a n ca) s.levels) (hid : ∀ l ∈ s.levels, l.length ≤ 1000000) :
    Calls Tryz.prog 34 #[.agg #[.int .u64 (s.next : Nat), .int .u64 (s.log : Nat), .slice a n ca]] w (EncPost s w) := by
  have hu1 : Upd (fun _ => False) w (w.alloc (.cells #[.int .u64 (s.next : Nat), .int .u64 (s.log : Nat), .slice a n ca] 28)) := (Upd.refl _ w).alloc _
  have hx1 := heap_alloc (w := w) (.cells #[.int .u64 (s.next : Nat), .int .u64 (s.log : Nat), .slice a n ca] 28)
  have HN := Lib.hid hn
  have HU := Lib.hid hu1
  have HX1 := Lib.hid hx1
  have HL := Lib.hid (hL.upd0 hu1)
  have HID := Lib.hid hid
  by_cases hm : mayS s = true
  · have HM := Lib.hid hm
    have HFIT := Lib.hid (mayS_fits hm)
    have HSZ := Lib.hid (stateB_le hm)
    have HE := Lib.hid (enc_yes hm)
    obtain ⟨_, g2, _, g4, g5, _⟩ := mayS_fits hm
    have hn7 : n ≤ 7 := by omega
    clear hn hu1 hx1 hL hid hm g5
    go_enter Tryz.func34, Tryz.ntmps34
    go_upto_region 1 with fail
    generalize w.alloc (.cells #[.int .u64 (s.next : Nat), .int .u64 (s.log : Nat), .slice a n ca] 28) = wb at *
    generalize w.heap.size = xb at *
    obtain ⟨p0, p1, p2⟩ := box_cells HX1.out
    go_upto_region 3 with (go_at_call 33; refine (rmay_any HN.out HL.out HID.out).mono ?_; rintro e w1 ⟨rfl, hu⟩; rw [HM.out])
    have HU1 := Lib.hid ((HU.out.trans hu (fun _ _ f => f)).drew)
    have HL1 := Lib.hid (HL.out.upd0 hu.drew)
    have HB1 := Lib.hid (hu.drew.keep HX1.out (fun f => f))
    clear hu p0 p1 p2
    go_wp2_with fail
    obtain ⟨p0, p1, p2⟩ := box_cells HB1.out
    have hkp : ∀ w5 : World, Upd (fun _ => False) w1.drew w5 → w5.cell? ⟨xb, 0, none⟩ = some (.int .u64 (s.next : Nat)) ∧ w5.cell? ⟨xb, 1, none⟩ = some (.int .u64 (s.log : Nat)) := fun w5 h => ⟨cell_upd h p0 (fun f => f), cell_upd h p1 (fun f => f)⟩
    have HKP := Lib.hid hkp
    have hc0 : w1.drew.cell? ⟨xb, 0, none⟩ = some (.int .u64 (s.next : Nat)) ∧ w1.drew.cell? ⟨xb, 1, none⟩ = some (.int .u64 (s.log : Nat)) := ⟨p0, p1⟩
    have HC0 := Lib.hid hc0
    clear hkp hc0 p0 p1 p2
    have HP1 : Hid (∀ w : World, Calls Tryz.prog 58 #[.string ⟨#[]⟩, .int .u64 (s.next : Nat)] w (StrPost (str (num s.next)) w)) := fun w => by
      have h := rput_number ⟨#[]⟩ s.next w (Nat.zero_le _) g2
      unfold PutPost at h
      rw [nil_app] at h
      exact h
    have HP2 : Hid (∀ w : World, Calls Tryz.prog 58 #[.string (str (num s.next)), .int .u64 (s.log : Nat)] w (PutPost (str (num s.next)) (str (num s.log)) w)) := fun w => rput_number (str (num s.next)) s.log w (by rw [str_size]; have := num_ten g2; omega) g4
    go_region_held3 (fun w' => w'.cell? ⟨xb, 0, none⟩ = some (.int .u64 (s.next : Nat)) ∧ w'.cell? ⟨xb, 1, none⟩ = some (.int .u64 (s.log : Nat))) (first | exact HC0.out | exact hcs5 | exact hcs6) (first | (go_at_call 58; refine (HP1.out _).mono ?_; clear HP1; rintro e w5 ⟨rfl, hu5⟩; have hcs5 := HKP.out w5 hu5) | (go_at_call 58; refine (HP2.out _).mono ?_; clear HP2; rintro e w6 ⟨rfl, hu6⟩; have hu7 := hu5.trans hu6 (fun _ _ f => f); have hcs6 := HKP.out w6 hu7))
    have HB6 := Lib.hid (hu7.keep HB1.out (fun f => f))
    have HL6 := Lib.hid (HL1.out.upd0 hu7)
    have HU6 := Lib.hid (HU1.out.trans hu7 (fun _ _ f => f))
    have HACC : Hid (str (num s.next) ++ str (num s.log) ++ str (num s.levels.length) ++ levelsB s.levels = stateB s) := rfl
    clear hcs5 hcs6 hu5 hu6 hu7
    have hn10 := num_ten g2
    have hl10 := num_ten g4
    have hxs : (str (num s.next) ++ str (num s.log)).size ≤ 20 := by rw [ByteArray.size_append, str_size, str_size]; omega
    generalize str (num s.next) ++ str (num s.log) = hd0 at *
    clear hn10 hl10
    obtain ⟨p0, p1, p2⟩ := box_cells HB6.out
    go_wp2_with fail
    refine (rput_int hd0 n _ (by omega) (by omega)).mono ?_
    rintro e w7 ⟨rfl, hu7⟩
    have p3 := cell_upd hu7 p2 (fun f => f)
    have HU7 := Lib.hid (HU6.out.trans hu7 (fun _ _ f => f))
    have HL7 := Lib.hid (HL6.out.upd0 hu7)
    rw [← HN.out] at HACC
    generalize hd0 ++ str (num n) = hd1 at *
    clear hu7 p0 p1 p2 hxs
    have hsz1 := size_pre HACC.out
    have HSZ1 := HSZ.out
    go_wp2_with fail
    go_loopw [5, 4] (fun i b wr => ∃ (k : Nat) (bs : ByteArray), i = .int .i64 k ∧ k ≤ n ∧ b = .string bs ∧ Hid (bs ++ levelsB (s.levels.drop k) = stateB s) ∧ Upd (fun _ => False) w7 wr) (fun i _ _ => n - (intOf i).toNat)
    case atStart => exact ⟨0, hd1, rfl, by omega, rfl, by show _ = _; rw [List.drop_zero]; exact HACC.out, Upd.refl _ _⟩
    case round =>
      obtain ⟨k, bs, rfl, hk, rfl, HA, hu⟩ := hrel
      have hbs := size_pre HA.out
      have b2 := cell_upd hu p3 (fun f => f)
      by_cases hlt : k < n
      · have hks : k < s.levels.length := by rw [← HN.out]; exact hlt
        obtain ⟨g, o, la, lc, rfl, c1, l1, m1, m2⟩ := HL7.out.cell hks
        have d1 := cell_upd hu c1 (fun f => f)
        have hlt2 : (k : Int) < (n : Int) := by omega
        have hk0 : (0 : Int) ≤ (k : Int) := by omega
        have L1 := Lib.hid (l1.upd0 hu)
        have hfl := HFIT.out.2.2.2.2.2 s.levels[k] (List.getElem_mem hks)
        have HFL := Lib.hid hfl.2
        have hl1 := hfl.1
        have HA2 : Hid (bs ++ str (num s.levels[k].length) ++ (filesB s.levels[k] ++ levelsB (s.levels.drop (k + 1))) = stateB s) := by
          show _ = _
          rw [levelsB_drop s.levels hks bs]
          exact HA.out
        clear l1 hfl
        generalize s.levels[k] = l at *
        go_wp2_with fail
        refine (rput_int bs l.length _ (by omega) (by omega)).mono ?_
        rintro e w8 ⟨rfl, hu8⟩
        have HU8 := Lib.hid (hu.trans hu8 (fun _ _ f => f))
        have L8 := Lib.hid (L1.out.upd0 hu8)
        generalize bs ++ str (num l.length) = bs1 at *
        clear d1 hu hu8 hbs
        go_wp2_with fail
        go_loopw [6, 4] (fun i b ws => ∃ (m : Nat) (bs2 : ByteArray), i = .int .i64 m ∧ m ≤ l.length ∧ b = .string bs2 ∧ Hid (bs2 ++ (filesB (l.drop m) ++ levelsB (s.levels.drop (k + 1))) = stateB s) ∧ Upd (fun _ => False) w8 ws) (fun i _ _ => l.length - (intOf i).toNat)
        case atStart => exact ⟨0, bs1, rfl, by omega, rfl, by show _ = _; rw [List.drop_zero]; exact HA2.out, Upd.refl _ _⟩
        case round =>
          obtain ⟨m, bs2, rfl, hm, rfl, HB, hu⟩ := hrel
          have hbs := size_pre HB.out
          have b3 := cell_upd (HU8.out.trans hu (fun _ _ f => f)) p3 (fun f => f)
          have d2 := cell_upd (HU8.out.trans hu (fun _ _ f => f)) c1 (fun f => f)
          by_cases hml : m < l.length
          · have hml2 : (m : Int) < (l.length : Int) := by omega
            have hm0 : (0 : Int) ≤ (m : Int) := by omega
            have hl9 : (l.length : Int) ≤ 9223372036854775807 := by omega
            have h2 := L8.out.upd0 hu
            obtain ⟨g3, o3, rfl, c0, c1, c2, c3⟩ := h2.cell hml
            have HB2 := Lib.hid ((filesB_drop l hml bs2 (levelsB (s.levels.drop (k + 1)))).trans HB.out)
            obtain ⟨q1, q2, q3, q4, q5, q6⟩ := HFL.out l[m] (List.getElem_mem hml)
            clear h2
            generalize l[m] = f at *
            obtain ⟨fid, flo, fhi, fce⟩ := f
            dsimp only at c0 c1 c2 c3 HB2 q1 q2 q3 q4 q5 q6
            obtain ⟨c, rfl⟩ : ∃ c : Nat, fce = (c : Int) := ⟨fce.toNat, by omega⟩
            rw [Int.toNat_natCast] at HB2
            have hb1 : (bs2 ++ str (num fid)).size ≤ 200000 := by
              have h := HB2.out
              simp only [app_assoc] at h
              rw [← app_assoc] at h
              have := size_pre h
              omega
            have hb2 : (bs2 ++ str (num fid) ++ txt flo).size ≤ 200000 := by
              have h := HB2.out
              simp only [app_assoc] at h
              rw [← app_assoc, ← app_assoc] at h
              have := size_pre h
              omega
            have hb3 : (bs2 ++ str (num fid) ++ txt flo ++ txt fhi).size ≤ 200000 := by
              have h := HB2.out
              simp only [app_assoc] at h
              rw [← app_assoc, ← app_assoc, ← app_assoc] at h
              have := size_pre h
              omega
            go_upto_region 13 with fail
            have hua : Upd (fun _ => False) wr (wr.alloc (.cells #[.int .u64 (fid : Nat), .string flo, .string fhi, .int .i64 (c : Nat)] 72)) := (Upd.refl _ wr).alloc _
            have hfa := heap_alloc (w := wr) (.cells #[.int .u64 (fid : Nat), .string flo, .string fhi, .int .i64 (c : Nat)] 72)
            have HUA := Lib.hid ((hu.trans hua (fun _ _ f => f)).drew)
            clear hu hua c0 c1 c2 c3
            generalize wr.alloc (.cells #[.int .u64 (fid : Nat), .string flo, .string fhi, .int .i64 (c : Nat)] 72) = wa at *
            generalize wr.heap.size = fb at *
            have e0 := cell_of_heap hfa 0
            have e1 := cell_of_heap hfa 1
            have e2 := cell_of_heap hfa 2
            simp only [List.getElem?_toArray, List.getElem?_cons_zero, List.getElem?_cons_succ] at e0 e1 e2
            have HFA := Lib.hid hfa
            clear hfa
            have HP1 : Hid (∀ w : World, Calls Tryz.prog 58 #[.string bs2, .int .u64 (fid : Nat)] w (PutPost bs2 (str (num fid)) w)) := fun w => rput_number bs2 fid w (by omega) q2
            have HP2 : Hid (∀ w : World, Calls Tryz.prog 60 #[.string (bs2 ++ str (num fid)), .string flo] w (PutPost (bs2 ++ str (num fid)) (txt flo) w)) := fun w => rput_text _ _ w (by omega) (by omega)
            have HP3 : Hid (∀ w : World, Calls Tryz.prog 60 #[.string (bs2 ++ str (num fid) ++ txt flo), .string fhi] w (PutPost (bs2 ++ str (num fid) ++ txt flo) (txt fhi) w)) := fun w => rput_text _ _ w (by omega) (by omega)
            have HP4 : Hid (∀ w : World, Calls Tryz.prog 59 #[.string (bs2 ++ str (num fid) ++ txt flo ++ txt fhi), .int .i64 (c : Nat)] w (PutPost (bs2 ++ str (num fid) ++ txt flo ++ txt fhi) (str (num c)) w)) := fun w => rput_int _ c w (by omega) (by omega)
            have HKP : Hid (∀ w5 : World, Upd (fun _ => False) wa.drew w5 → w5.cell? ⟨fb, 0, none⟩ = some (.int .u64 (fid : Nat)) ∧ w5.cell? ⟨fb, 1, none⟩ = some (.string flo) ∧ w5.cell? ⟨fb, 2, none⟩ = some (.string fhi)) := fun w5 h => ⟨cell_upd h e0 (fun f => f), cell_upd h e1 (fun f => f), cell_upd h e2 (fun f => f)⟩
            have HC0 : Hid (wa.drew.cell? ⟨fb, 0, none⟩ = some (.int .u64 (fid : Nat)) ∧ wa.drew.cell? ⟨fb, 1, none⟩ = some (.string flo) ∧ wa.drew.cell? ⟨fb, 2, none⟩ = some (.string fhi)) := ⟨e0, e1, e2⟩
            clear e0 e1 e2 hb1 hb2 hb3
            go_wp2_with fail
            go_region_held3 (fun w' => w'.cell? ⟨fb, 0, none⟩ = some (.int .u64 (fid : Nat)) ∧ w'.cell? ⟨fb, 1, none⟩ = some (.string flo) ∧ w'.cell? ⟨fb, 2, none⟩ = some (.string fhi)) (first | exact HC0.out | exact hcs5 | exact hcs6 | exact hcs7) (first | (go_at_call 58; refine (HP1.out _).mono ?_; clear HP1; rintro e w5 ⟨rfl, hu5⟩; have hcs5 := HKP.out w5 hu5) | (go_at_call 60; refine (HP2.out _).mono ?_; clear HP2; rintro e w6 ⟨rfl, hu6⟩; have hu6a := hu5.trans hu6 (fun _ _ f => f); have hcs6 := HKP.out w6 hu6a) | (go_at_call 60; refine (HP3.out _).mono ?_; clear HP3; rintro e w7' ⟨rfl, hu7⟩; have hu7a := hu6a.trans hu7 (fun _ _ f => f); have hcs7 := HKP.out w7' hu7a))
            have e3 := cell_of_heap (hu7a.keep (show wa.drew.heap[fb]? = _ from HFA.out) (fun f => f)) 3
            simp only [List.getElem?_toArray, List.getElem?_cons_zero, List.getElem?_cons_succ] at e3
            have HU9 := Lib.hid (HUA.out.trans hu7a (fun _ _ f => f))
            have hci : (c : Int) ≤ 1073741824 := by omega
            have hc18 : c < 18446744073709551616 := by omega
            clear hcs5 hcs6 hcs7 hu5 hu6 hu7 hu6a hu7a
            go_wp2_with fail
            refine (HP4.out _).mono ?_
            rintro e w9 ⟨rfl, hu9⟩
            go_wp2_with fail
            exact ⟨⟨m + 1, _, by go_num, by omega, rfl, HB2, HU9.out.trans hu9 (fun _ _ f => f)⟩, by simp [intOf]; omega⟩
          · have hge : ¬ (m : Int) < (l.length : Int) := by omega
            have HB3 : Hid (bs2 ++ levelsB (s.levels.drop (k + 1)) = stateB s) := by
              have h := HB.out
              rw [List.drop_eq_nil_of_le (by omega)] at h
              simp only [filesB, nil_app] at h
              exact h
            go_wp2_with fail
            exact ⟨⟨k + 1, bs2, by go_num, by omega, rfl, HB3, HU8.out.trans hu (fun _ _ f => f)⟩, by simp [intOf]; omega⟩
      · have hge : ¬ (k : Int) < (n : Int) := by omega
        have hfin : bs = stateB s := by
          have h := HA.out
          rw [List.drop_eq_nil_of_le (by have := HN.out; omega)] at h
          simp only [levelsB, app_nil] at h
          exact h
        have hs1 := HSZ.out
        rw [← hfin] at hs1
        have HFIN := Lib.hid hfin
        clear hfin hbs
        go_wp2_with fail
        refine (rframe_any bs _ (by omega)).mono ?_
        rintro e w9 ⟨rfl, hu9⟩
        go_wp2_with fail
        go_ret2
        exact ⟨by rw [HE.out.1, HE.out.2, HFIN.out]; rfl, (HU7.out.trans hu (fun _ _ f => f)).trans hu9 (fun _ _ f => f)⟩
  · have HE := Lib.hid (enc_no hm)
    have HM := Lib.hid hm
    clear hn hu1 hx1 hL hid hm
    go_enter Tryz.func34, Tryz.ntmps34
    go_upto_region 1 with fail
    generalize w.alloc (.cells #[.int .u64 (s.next : Nat), .int .u64 (s.log : Nat), .slice a n ca] 28) = wb at *
    generalize w.heap.size = xb at *
    obtain ⟨p0, p1, p2⟩ := box_cells HX1.out
    go_wp2_with (go_at_call 33; refine (rmay_any HN.out HL.out HID.out).mono ?_; rintro e w1 ⟨rfl, hu⟩; rw [Bool.eq_false_iff.2 HM.out])
    go_ret2
    exact ⟨by rw [HE.out.1, HE.out.2]; rfl, HU.out.trans hu (fun _ _ f => f)⟩
end Go.Proofs.YtgkegfgdpekehaaGreat
/- Plain: what the reference's reader hands back, read as numbers and texts. -/
namespace Go.Proofs.YtgkegfgdpekehaaGreat
open Go.RowKit Go.Acre Go.Acre.Dk
theorem rdNum_few (B : Nat) (s : ByteArray) : rdNum B s = if (fewS B s).2 = true then some ((fewS B s).1, (numS s).2.2) else none := by
  rw [rdNum_numS]
  unfold fewS
  by_cases h : (numS s).2.1 = true ∧ (numS s).1 ≤ B
  · rw [if_pos h, if_pos h, if_pos rfl]
  · rw [if_neg h, if_neg h]
    simp
theorem few_zero {B : Nat} {s : ByteArray} (h : (fewS B s).2 = false) : (fewS B s).1 = 0 := by
  unfold fewS at h ⊢
  by_cases h2 : (numS s).2.1 = true ∧ (numS s).1 ≤ B
  · rw [if_pos h2] at h; cases h
  · rw [if_neg h2]
theorem few_le {B : Nat} {s : ByteArray} : (fewS B s).1 ≤ B := by
  unfold fewS
  by_cases h2 : (numS s).2.1 = true ∧ (numS s).1 ≤ B
  · rw [if_pos h2]; exact h2.2
  · rw [if_neg h2]; exact Nat.zero_le _
theorem numS_lt (s : ByteArray) : (numS s).1 < 18446744073709551616 := by
  unfold numS
  cases h : numB s with
  | none => simp
  | some p =>
    obtain ⟨v, n⟩ := p
    exact (numB_some h).2.2.1
/-- every number is at most the greatest one -/
theorem rdNum_all (s : ByteArray) : rdNum MX s = if (numS s).2.1 = true then some ((numS s).1, (numS s).2.2) else none := by
  have h := numS_lt s
  have h2 : (numS s).1 ≤ MX := by
    have e : MX = 18446744073709551615 := rfl
    omega
  rw [rdNum_numS]
  by_cases h3 : (numS s).2.1 = true
  · rw [if_pos ⟨h3, h2⟩, if_pos h3]
  · rw [if_neg (fun h4 => h3 h4.1), if_neg h3]
end Go.Proofs.YtgkegfgdpekehaaGreat
/- Plain: what the reference's read makes of bytes, from its numbers and texts; what is handed back. -/
namespace Go.Proofs.YtgkegfgdpekehaaGreat
open Go.RowKit Go.Acre Go.Acre.Dk
theorem rdFile_ref {s s1 s2 s3 s4 lo hi : ByteArray} {id v ce : Nat} {a b c k d : Bool} (h1 : numS s = (id, a, s1)) (h2 : textS s1 = (lo, b, s2)) (h3 : textS s2 = (hi, c, s3)) (h4 : numS s3 = (v, k, s4)) (h5 : fewS 1073741824 s3 = (ce, d)) :
    rdFile MX s = if (a && b && c && d) = true then some (⟨id, lo, hi, (ce : Int)⟩, s4) else none := by
  unfold rdFile
  rw [rdNum_all, h1]
  cases a with
  | false => simp
  | true =>
    simp only [if_true]
    rw [rdTxt_textS, h2]
    cases b with
    | false => simp
    | true =>
      simp only [if_true]
      rw [rdTxt_textS, h3]
      cases c with
      | false => simp
      | true =>
        simp only [if_true]
        rw [rdNum_few, h5, h4]
        cases d with
        | false => simp
        | true => simp
theorem rdLevel_ref {s s1 : ByteArray} {v n : Nat} {k is : Bool} (h1 : numS s = (v, k, s1)) (h2 : fewS 1024 s = (n, is)) :
    rdLevel MX s = if is = true then rdN (rdFile MX) n s1 else none := by
  unfold rdLevel
  rw [rdNum_few, h2, h1]
  cases is with
  | false => simp
  | true => simp
theorem rdState_ref {s s1 s2 s3 : ByteArray} {nx lg v n : Nat} {k1 k2 k k3 : Bool} (h1 : numS s = (nx, k1, s1)) (h2 : numS s1 = (lg, k2, s2)) (h3 : numS s2 = (v, k, s3)) (h4 : fewS 7 s2 = (n, k3)) :
    rdState MX s = if (k1 && k2 && k3) = true then asSt nx lg (rdN (rdLevel MX) n s3) else none := by
  unfold rdState
  rw [rdNum_all, h1]
  cases k1 with
  | false => simp
  | true =>
    simp only [if_true]
    rw [rdNum_all, h2]
    cases k2 with
    | false => simp
    | true =>
      simp only [if_true]
      rw [rdNum_few, h4, h3]
      cases k3 with
      | false => simp
      | true =>
        simp only [if_true, Bool.and_self]
        cases rdN (rdLevel MX) n s3 with
        | none => rfl
        | some p => rfl
/-- a state, where nothing is behind it -/
def whole : Option (MSt × ByteArray) → Option MSt
  | some (x, r) => if r.size = 0 then some x else none
  | none => none
/-- what is handed back by read -/
def RdPost (r : Option MSt) (w : World) (e : Ending) (w' : World) : Prop :=
  match r with
  | some x => ∃ a cap, e = .returned (.tuple #[.agg #[.int .u64 (x.next : Nat), .int .u64 (x.log : Nat), .slice a x.levels.length cap], .bool true]) ∧ OutAt w' w.heap.size (.slice a x.levels.length cap) x.levels ∧ Upd (fun _ => False) w w'
  | none => ∃ (nx lg : Nat) (a : Option Addr) (n cap : Nat), e = .returned (.tuple #[.agg #[.int .u64 (nx : Nat), .int .u64 (lg : Nat), .slice a n cap], .bool false]) ∧ Upd (fun _ => False) w w'
theorem read_no {r : Option MSt} (h : r = none) {nx lg : Nat} {a : Option Addr} {n cap : Nat} {w w' : World} (hu : Upd (fun _ => False) w w') : RdPost r w (.returned (.tuple #[.agg #[.int .u64 (nx : Nat), .int .u64 (lg : Nat), .slice a n cap], .bool false])) w' := by
  subst h
  exact ⟨nx, lg, a, n, cap, rfl, hu⟩
theorem read_yes {r : Option MSt} {nx lg : Nat} {ls : List (List PF)} (h : r = some ⟨nx, lg, ls⟩) {a : Option Addr} {cap : Nat} {w w' : World} (ho : OutAt w' w.heap.size (.slice a ls.length cap) ls) (hu : Upd (fun _ => False) w w') :
    RdPost r w (.returned (.tuple #[.agg #[.int .u64 (nx : Nat), .int .u64 (lg : Nat), .slice a ls.length cap], .bool true])) w' := by
  subst h
  exact ⟨a, cap, rfl, ho, hu⟩
end Go.Proofs.YtgkegfgdpekehaaGreat
