/- The walk of Nodes. -/
import Derived.Test.YtkkickalleelkaaJ
import Derived.Laws.MakeOwn
namespace Go.Proofs.Ytkkickalleelkaa
open Go.RowKit Go.Acre
theorem run_store_float (P : Program) (w : World) (a : Addr) (m : Mode) (k : FloatKind) (b : Nat) : (store a (.float k b) m).run P w = stored P w a (.float k b) m := run_store P w a _ m rfl
theorem run_store_complex (P : Program) (w : World) (a : Addr) (m : Mode) (k : FloatKind) (x y : Nat) : (store a (.complex k x y) m).run P w = stored P w a (.complex k x y) m := run_store P w a _ m rfl
attribute [local go_sem] run_store_float run_store_complex
abbrev CX := Nat × Nat
def cv (p : CX) : Value := .complex .f64 p.1 p.2
def LocsAt (w : World) (a : Option Addr) (n : Nat) (ls : List Lo) : Prop := n = ls.length ∧ ∀ i (hi : i < ls.length), ∃ g o v, a = some ⟨g, o, none⟩ ∧ w.cell? ⟨g, o + i * 5, none⟩ = some (.int .i64 ls[i].group) ∧ w.cell? ⟨g, o + i * 5 + 1, none⟩ = some (.string ⟨#[]⟩) ∧ w.cell? ⟨g, o + i * 5 + 2, none⟩ = some (.string ⟨#[]⟩) ∧ w.cell? ⟨g, o + i * 5 + 3, none⟩ = some (.int .u64 0) ∧ w.cell? ⟨g, o + i * 5 + 4, none⟩ = some v ∧ LoAt w v ls[i]
theorem LocsAt.upd0 {w w' : World} {a : Option Addr} {n : Nat} {ls : List Lo} (h : LocsAt w a n ls) (hu : Upd (fun _ => False) w w') : LocsAt w' a n ls :=
  ⟨h.1, fun i hi => by
    obtain ⟨g, o, v, e, c0, c1, c2, c3, c4, hl⟩ := h.2 i hi
    exact ⟨g, o, v, e, cell_upd hu c0 (fun f => f), cell_upd hu c1 (fun f => f), cell_upd hu c2 (fun f => f), cell_upd hu c3 (fun f => f), cell_upd hu c4 (fun f => f), hl.upd0 hu⟩⟩
def CxAt (w : World) (a : Option Addr) (n : Nat) (qs : List CX) : Prop := n = qs.length ∧ ∀ i (hi : i < qs.length), ∃ g o, a = some ⟨g, o, none⟩ ∧ w.cell? ⟨g, o + i, none⟩ = some (cv qs[i])
theorem CxAt.upd0 {w w' : World} {a : Option Addr} {n : Nat} {qs : List CX} (h : CxAt w a n qs) (hu : Upd (fun _ => False) w w') : CxAt w' a n qs :=
  ⟨h.1, fun i hi => by
    obtain ⟨g, o, e, c0⟩ := h.2 i hi
    exact ⟨g, o, e, cell_upd hu c0 (fun f => f)⟩⟩
def caddO (p q : CX) : Option CX := cSumBits .add .f64 p.1 p.2 q.1 q.2
def addAll : List CX → List Int → CX → Option (List CX)
  | acc, [], _ => some acc
  | acc, n :: r, q => match acc[n.toNat]? with
    | none => none
    | some p => match caddO p q with
      | none => none
      | some s => addAll (acc.set n.toNat s) r q
def mayC (q : CX) : Bool := partC q.1 && partC q.2
def nodesF (N : Nat) : List CX → List (Lo × CX) → Option (Option (List CX))
  | acc, [] => some (some acc)
  | acc, (l, q) :: r => if hereB N l && mayC q then (match addAll acc l.nodes q with
    | none => none
    | some acc' => nodesF N acc' r) else some none
theorem riseT_in {N : Int} {ns : List Int} : ∀ {k : Nat}, riseT N ns k = true → ∀ i, i < k → 0 ≤ ns.getD i 0 ∧ ns.getD i 0 < N
  | 0, _, i, hi => absurd hi (by omega)
  | k + 1, h, i, hi => by
    simp only [riseT, Bool.and_eq_true, decide_eq_true_eq] at h
    by_cases hik : i = k
    · subst hik
      exact ⟨h.2.1, h.2.2.1⟩
    · exact riseT_in h.1 i (by omega)
theorem here_in {N : Int} {l : Lo} (h : hereB N l = true) {i : Nat} (hi : i < l.nodes.length) : 0 ≤ l.nodes[i] ∧ l.nodes[i] < N := by
  unfold hereB at h
  simp only [Bool.and_eq_true] at h
  have := riseT_in h.1 i hi
  simpa [hi] using this
def outCells (acc : List CX) : Array Value := (acc.map cv).toArray
def NodesPost (N : Nat) (R : Option (List CX)) (w : World) (e : Ending) (w' : World) : Prop :=
  match R with
  | none => e = .returned (.tuple #[.slice none 0 0, .int .i64 2]) ∧ Upd (fun _ => False) w w'
  | some acc => ∃ g, e = .returned (.tuple #[.slice (some ⟨g, 0, none⟩) N N, .int .i64 0]) ∧ w.heap.size ≤ g ∧ acc.length = N ∧ w'.heap[g]? = some (.cells (outCells acc) 28 (0, 0)) ∧ Upd (fun _ => False) w w'
theorem info28 : (Try.prog.info? 28).map (fun i => (i.zero, i.size, i.bytes)) = some (some (.complex .f64 0 0), 1, 16) := by kernel_rfl
theorem madeN (N : Nat) (hN : N ≤ 5) (u : World) : (Instr.makeSlice 39 (.int .i64 (N : Int)) (.int .i64 (N : Int))).run Try.prog u = .ok (.slice (some ⟨u.heap.size, 0, none⟩) N N) (u.alloc (.cells (outCells (List.replicate N (0, 0))) 28)) := by
  obtain ⟨i0, hi, hz0, hz1, hz2⟩ := info_parts info28
  have h := run_make u (P := Try.prog) 39 28 i0 (.complex .f64 0 0) Try.underlying39 hi hz0 .i64 .i64 (N : Int) (N : Int) (by omega) (by omega) (by rw [hz2]; omega) (by omega)
  rw [h]
  have e : madeCells (Value.complex .f64 0 0).cells ((N : Int).toNat * i0.size) = outCells (List.replicate N (0, 0)) := by
    rw [hz1]
    apply Array.ext
    · simp [madeCells, outCells]
    · intro i h1 h2
      simp [madeCells, outCells, cv, Value.cells, Nat.mod_one]
  rw [e]
  simp
theorem nodes_bad {w : World} {N : Int} {a b : Option Addr} {n m c d : Nat} (h : N < 1 ∨ 5 < N ∨ n ≠ m) : Calls Try.prog 16 #[.int .i64 N, .slice a n c, .slice b m d] w (NodesPost 0 none w) := by
  by_cases h1 : N < 1
  · go_enter Try.func16, Try.ntmps16
    go_wp2_with fail
    go_ret2
    exact ⟨rfl, Upd.refl _ _⟩
  · by_cases h2 : 5 < N
    · go_enter Try.func16, Try.ntmps16
      go_wp2_with fail
      go_ret2
      exact ⟨rfl, Upd.refl _ _⟩
    · have h3 : n ≠ m := by omega
      have h4 : ((n : Int) != (m : Int)) = true := by simp; omega
      have h5 : (n != m) = true := by simp; omega
      clear h
      go_enter Try.func16, Try.ntmps16
      go_wp2_with fail
      go_ret2
      exact ⟨rfl, Upd.refl _ _⟩
theorem addAll_len : ∀ {ns : List Int} {acc acc' : List CX} {q : CX}, addAll acc ns q = some acc' → acc'.length = acc.length
  | [], acc, acc', q, h => by cases h; rfl
  | n :: r, acc, acc', q, h => by
    unfold addAll at h
    split at h
    · cases h
    · split at h
      · cases h
      · rw [addAll_len h, List.length_set]
theorem set_out {w : World} {g : Nat} {acc : List CX} (h : w.heap[g]? = some (.cells (outCells acc) 28 (0, 0))) (i : Nat) (s : CX) : (w.setCell ⟨g, i, none⟩ (cv s)).heap[g]? = some (.cells (outCells (acc.set i s)) 28 (0, 0)) := by
  have := heap_setCell (o := i) h (cv s)
  rw [this]
  unfold outCells
  rw [List.map_set]
  simp
set_option maxHeartbeats 4000000 in
set_option maxRecDepth 100000 in
theorem nodes_any {w : World} {a b : Option Addr} {n c d : Nat} {ls : List Lo} {qs : List CX} (hl : LocsAt w a n ls) (hq : CxAt w b n qs) (hn : n ≤ 12) (hm : ∀ q ∈ qs, MayIs q.1 q.2 (mayC q)) {N : Nat} (hN : 1 ≤ N ∧ N ≤ 5) {R : Option (List CX)} (hR : nodesF N (List.replicate N (0, 0)) (ls.zip qs) = some R) :
    Calls Try.prog 16 #[.int .i64 (N : Int), .slice a n c, .slice b n d] w (NodesPost N R w) := by
  have hmk := madeN N hN.2
  have hua : Upd (fun _ => False) w (w.alloc (.cells (outCells (List.replicate N (0, 0))) 28)) := (Upd.refl _ w).alloc _
  have hxa := heap_alloc (w := w) (.cells (outCells (List.replicate N (0, 0))) 28)
  have HL := Lib.hid hl
  have HQ := Lib.hid hq
  have HM := Lib.hid hm
  have HR := Lib.hid hR
  have HU := Lib.hid hua
  have HX := Lib.hid hxa
  obtain ⟨hN1, hN5⟩ := hN
  have hN1i : ¬ (N : Int) < 1 := by omega
  have hN5i : ¬ (5 : Int) < (N : Int) := by omega
  have hn12 : ¬ (12 : Int) < (n : Int) := by omega
  have hnl : n = ls.length := hl.1
  have hnq : n = qs.length := hq.1
  have hll : (ls.zip qs).length = n := by rw [List.length_zip, ← hl.1, ← hq.1, Nat.min_self]
  have HZ : Hid (∀ k (h1 : k < ls.length) (h2 : k < qs.length), (ls.zip qs).drop k = (ls[k], qs[k]) :: (ls.zip qs).drop (k + 1)) := fun k h1 h2 => by
    rw [List.drop_eq_getElem_cons (by omega), List.getElem_zip]
  have HLL := Lib.hid hll
  have HNL := Lib.hid hnl
  have HNQ := Lib.hid hnq
  have HAL : Hid ((List.replicate N ((0, 0) : CX)).length = N) := Lib.hid List.length_replicate
  clear hl hq hm hR hua hxa hll hnl hnq
  generalize List.replicate N ((0, 0) : CX) = acc0 at *
  generalize ls.zip qs = zs at *
  go_enter Try.func16, Try.ntmps16
  go_upto_region 4 with fail
  generalize w.alloc (.cells (outCells acc0) 28) = wb at *
  generalize hgb : w.heap.size = gb at *
  have HGB := Lib.hid hgb
  clear hgb hmk
  go_wp2_with fail
  go_loopw [35] (fun i wr => ∃ (k : Nat) (acc : List CX), i = .int .i64 k ∧ k ≤ n ∧ acc.length = N ∧ nodesF N acc (zs.drop k) = some R ∧ wr.heap[gb]? = some (.cells (outCells acc) 28 (0, 0)) ∧ Upd (fun _ => False) w wr) (fun i _ => n - (intOf i).toNat)
  case atStart => exact ⟨0, acc0, rfl, by omega, HAL.out, HR.out, HX.out, HU.out⟩
  case round =>
    obtain ⟨k, acc, rfl, hk, hal, hnf, hg, hu⟩ := hrel
    by_cases hlt : k < n
    · have hlti : (k : Int) < (n : Int) := by omega
      have hk0 : (0 : Int) ≤ (k : Int) := by omega
      have h1 : k < ls.length := by rw [← HNL.out]; exact hlt
      have h2 : k < qs.length := by rw [← HNQ.out]; exact hlt
      obtain ⟨g, o, v, rfl, z0, z1, z2, z3, z4, hlo⟩ := HL.out.2 k h1
      obtain ⟨g2, o2, rfl, dd⟩ := HQ.out.2 k h2
      have c0 := cell_upd hu z0 (fun f => f)
      have c1 := cell_upd hu z1 (fun f => f)
      have c2 := cell_upd hu z2 (fun f => f)
      have c3 := cell_upd hu z3 (fun f => f)
      have c4 := cell_upd hu z4 (fun f => f)
      have d0 := cell_upd hu dd (fun f => f)
      clear z0 z1 z2 z3 z4
      rw [HZ.out k h1 h2] at hnf
      have hmay := HM.out qs[k] (List.getElem_mem h2)
      generalize ls[k] = l at *
      generalize qs[k] = q at *
      obtain ⟨qx, qy⟩ := q
      unfold cv at d0 dd
      obtain ⟨na, nc, rfl⟩ := hlo.ints.slice
      have HLO0 := Lib.hid hlo
      have HDD := Lib.hid dd
      have HLO := Lib.hid (hlo.upd0 hu)
      clear dd
      have HMAY := Lib.hid hmay
      have HNF := Lib.hid hnf
      have HG := Lib.hid hg
      have HUV := Lib.hid hu
      have HACL := Lib.hid hal
      clear hlo hmay hnf hg hu hal
      go_upto_region 7 with fail
      have hxb := heap_alloc (w := wr) (.cells #[.int .i64 l.group, .string ⟨#[]⟩, .string ⟨#[]⟩, .int .u64 0, .slice na l.nodes.length nc] 63)
      have hub : Upd (fun _ => False) wr (wr.alloc (.cells #[.int .i64 l.group, .string ⟨#[]⟩, .string ⟨#[]⟩, .int .u64 0, .slice na l.nodes.length nc] 63)) := (Upd.refl _ wr).alloc _
      have HXB := Lib.hid hxb
      have HLO1 := Lib.hid (HLO.out.upd0 hub)
      have HG1 := Lib.hid (hub.keep HG.out (fun f => f))
      have HU1 := Lib.hid (HUV.out.trans hub (fun _ _ f => f))
      have hgx : gb ≠ wr.heap.size := by have := lt_of_heap HG.out; omega
      have d1 := cell_upd hub d0 (fun f => f)
      clear hxb hub d0 c0 c1 c2 c3 c4 HLO HG HUV
      generalize wr.alloc (.cells #[.int .i64 l.group, .string ⟨#[]⟩, .string ⟨#[]⟩, .int .u64 0, .slice na l.nodes.length nc] 63) = w1 at *
      generalize wr.heap.size = bb at *
      obtain ⟨b0, b1, b2, b3, b4⟩ := box5 HXB.out
      have HH : Hid (Calls Try.prog 31 #[.int .i64 (N : Int), .agg #[.int .i64 l.group, .string ⟨#[]⟩, .string ⟨#[]⟩, .int .u64 0, .slice na l.nodes.length nc]] w1 (PureUpd (.bool (hereB N l)) w1)) := Lib.hid (here_any HLO1.out (N : Int) (by omega))
      have hnf := HNF.out
      unfold nodesF at hnf
      cases hh : hereB N l with
      | false =>
        rw [hh] at HH
        rw [hh, Bool.false_and, if_neg (by simp)] at hnf
        obtain rfl : none = R := by simpa using hnf
        clear hnf hh
        go_wp2_with fail
        refine HH.out.mono ?_
        rintro e w2 ⟨rfl, hu2⟩
        go_wp2_with fail
        go_ret2
        exact ⟨rfl, HU1.out.trans hu2 (fun _ _ f => f)⟩
      | true =>
        rw [hh] at HH
        have HHB := Lib.hid hh
        rw [hh, Bool.true_and] at hnf
        clear hh
        go_wp2_with fail
        refine HH.out.mono ?_
        rintro e w2 ⟨rfl, hu2⟩
        have d2 := cell_upd hu2 d1 (fun f => f)
        have HXB2 := Lib.hid (hu2.keep HXB.out (fun f => f))
        have HG2 := Lib.hid (hu2.keep HG1.out (fun f => f))
        have HU2 := Lib.hid (HU1.out.trans hu2 (fun _ _ f => f))
        have HLO2 := Lib.hid (HLO1.out.upd0 hu2)
        clear hu2 d1 b0 b1 b2 b3 b4 HH HXB HG1 HU1 HLO1
        cases hmm : mayC (qx, qy) with
        | false =>
          rw [hmm] at HMAY
          rw [hmm, if_neg (by simp)] at hnf
          obtain rfl : none = R := by simpa using hnf
          clear hnf hmm
          go_wp2_with fail
          refine (HMAY.out _).mono ?_
          rintro e w3 ⟨rfl, rfl⟩
          go_wp2_with fail
          go_ret2
          exact ⟨rfl, HU2.out⟩
        | true =>
          rw [hmm] at HMAY
          rw [hmm, if_pos rfl] at hnf
          clear hmm
          obtain ⟨acc', ha, hnf2⟩ : ∃ acc', addAll acc l.nodes (qx, qy) = some acc' ∧ nodesF N acc' (zs.drop (k + 1)) = some R := by
            revert hnf
            cases ha : addAll acc l.nodes (qx, qy) with
            | none => simp
            | some acc' => exact fun h => ⟨acc', rfl, h⟩
          have hal' := addAll_len ha
          have HA := Lib.hid ha
          have HNF2 := Lib.hid hnf2
          have HAL' := Lib.hid hal'
          have hln := HLO2.out.len
          clear hnf ha hnf2 hal'
          go_wp2_with fail
          refine (HMAY.out _).mono ?_
          rintro e w3 ⟨rfl, rfl⟩
          go_upto_region 9 with fail
          obtain ⟨b0, b1, b2, b3, b4⟩ := box5 HXB2.out
          go_wp2_with fail
          go_loopw [55] (fun i wr => ∃ (j : Nat) (ac : List CX), i = .int .i64 j ∧ j ≤ l.nodes.length ∧ ac.length = N ∧ addAll ac (l.nodes.drop j) (qx, qy) = some acc' ∧ wr.heap[gb]? = some (.cells (outCells ac) 28 (0, 0)) ∧ Upd (fun i => i = gb) w2 wr) (fun i _ => l.nodes.length - (intOf i).toNat)
          case atStart => exact ⟨0, acc, rfl, by omega, HACL.out, HA.out, HG2.out, Upd.refl _ _⟩
          case round =>
            obtain ⟨j, ac, rfl, hj, hacl, haa, hgg, huu⟩ := hrel
            by_cases hjl : j < l.nodes.length
            · have hjli : (j : Int) < (l.nodes.length : Int) := by omega
              have hj0 : (0 : Int) ≤ (j : Int) := by omega
              have hfin : Upd (fun _ => False) w wr := HU2.out.trans huu (fun i hi e => by have := HGB.out; omega)
              obtain ⟨g3, o3, rfl, n0⟩ := (HLO0.out.upd0 hfin).ints.cell hjl
              have hin := here_in HHB.out hjl
              rw [List.drop_eq_getElem_cons hjl] at haa
              generalize l.nodes[j] = z at *
              obtain ⟨zn, rfl⟩ : ∃ zn : Nat, z = (zn : Int) := ⟨z.toNat, by omega⟩
              have hzN : zn < N := by omega
              have hzi : (zn : Int) < (N : Int) := by omega
              have hz0 : (0 : Int) ≤ (zn : Int) := by omega
              unfold addAll at haa
              rw [Int.toNat_natCast, List.getElem?_eq_getElem (by omega)] at haa
              have hoc : wr.cell? ⟨gb, zn, none⟩ = some (cv (ac[zn]'(by omega))) := by
                rw [cell_of_heap hgg zn]
                unfold outCells
                simp [show zn < ac.length by omega]
              have hfz := frozen_of_heap hgg zn none
              generalize ac[zn]'(by omega) = pq at *
              obtain ⟨px, py⟩ := pq
              obtain ⟨s, hs, haa2⟩ : ∃ s, caddO (px, py) (qx, qy) = some s ∧ addAll (ac.set zn s) (l.nodes.drop (j + 1)) (qx, qy) = some acc' := by
                revert haa
                simp only
                cases hs : caddO (px, py) (qx, qy) with
                | none => simp
                | some s => exact fun h => ⟨s, rfl, h⟩
              obtain ⟨sx, sy⟩ := s
              have hadd : ∀ w' : World, (binOp .add 28 (.complex .f64 px py) (.complex .f64 qx qy)).run Try.prog w' = .ok (.complex .f64 sx sy) w' := fun w' => run_complex_sum w' .add (.inl rfl) 28 .f64 _ _ _ _ _ _ hs
              have d3 := cell_upd hfin HDD.out (fun f => f)
              have HSET := Lib.hid (set_out hgg zn (sx, sy))
              have HAA := Lib.hid haa2
              have HFIN := Lib.hid hfin
              have HUU := Lib.hid huu
              have HSL : Hid ((ac.set zn (sx, sy)).length = N) := Lib.hid (by rw [List.length_set]; exact hacl)
              unfold cv at hoc HSET
              clear haa hs haa2 hfin huu hgg hin d2 b0 b1 b2 b3 b4
              go_upto_region 12 with fail
              go_region_with (fail)
              all_goals go_wp2_with fail
              all_goals exact ⟨⟨j + 1, ac.set zn (sx, sy), by go_num, by omega, HSL.out, HAA.out, HSET.out, HUU.out.drew.setCell (fun _ => rfl) _⟩, by simp [intOf]; omega⟩
            · have hjli : ¬ (j : Int) < (l.nodes.length : Int) := by omega
              rw [List.drop_eq_nil_of_le (by omega)] at haa
              obtain rfl : ac = acc' := by simpa [addAll] using haa
              clear haa
              have hfin : Upd (fun _ => False) w wr := HU2.out.trans huu (fun i hi e => by have := HGB.out; omega)
              go_wp2_with fail
              exact ⟨⟨k + 1, ac, by go_num, by omega, hacl, HNF2.out, hgg, hfin⟩, by simp [intOf]; omega⟩
    · have hlti : ¬ (k : Int) < (n : Int) := by omega
      obtain rfl : k = n := by omega
      rw [List.drop_eq_nil_of_le (by rw [HLL.out]; exact Nat.le_refl _)] at hnf
      obtain rfl : some acc = R := by simpa [nodesF] using hnf
      clear hnf
      go_wp2_with fail
      go_ret2
      exact ⟨gb, rfl, by rw [HGB.out]; exact Nat.le_refl _, hal, hg, hu⟩
end Go.Proofs.Ytkkickalleelkaa
