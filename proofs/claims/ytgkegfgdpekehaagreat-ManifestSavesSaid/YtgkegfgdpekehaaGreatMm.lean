/- The iterator over a state's files: its contract. -/
import Derived.RangeFuncNested
import Derived.RangeFuncBound
import Derived.RangeFuncCalls
import Derived.RangeFuncLeaves
import Derived.Shelf.Abstract
import Derived.Shelf.RegionOpen
import Derived.WalkKit
import Derived.OwnWalkIn
import Derived.TacticsInMore
import Derived.LoopNIn
import Derived.LoopIn
import Derived.Test.YtgkegfgdpekehaaGreatMi
namespace Go.Proofs.YtgkegfgdpekehaaGreat
open Go.RowKit Go.Shelf Go.Acre Go.Acre.Dk
attribute [local go_sem] Oper.semAt_some
/-- a level's number and a file of it -/
abbrev XF := { x : Nat × PF // x.2.id < 18446744073709551616 }
abbrev encX (x : XF) : Array Value := #[.int .i64 (x.1.1 : Nat), agF x.1.2]
def base (ls : List (List PF)) (k : Nat) : Nat := (flat (ls.take k)).length
theorem flatFrom_append (i : Nat) (a b : List (List PF)) : flatFrom i (a ++ b) = flatFrom i a ++ flatFrom (i + a.length) b := by
  induction a generalizing i with
  | nil => simp [flatFrom]
  | cons x r ih =>
    simp only [List.cons_append, flatFrom, List.length_cons]
    rw [ih, List.append_assoc, show i + 1 + r.length = i + (r.length + 1) from by omega]
theorem flat_take (ls : List (List PF)) {k : Nat} (h : k < ls.length) : flat (ls.take (k + 1)) = flat (ls.take k) ++ ls[k].map (fun f => (k, f)) := by
  unfold flat
  rw [List.take_succ_eq_append_getElem h, flatFrom_append]
  simp [flatFrom, Nat.min_eq_left (Nat.le_of_lt h)]
theorem flat_split (ls : List (List PF)) (k : Nat) : flat ls = flat (ls.take k) ++ flatFrom (ls.take k).length (ls.drop k) := by
  have := flatFrom_append 0 (ls.take k) (ls.drop k)
  rw [List.take_append_drop, Nat.zero_add] at this
  exact this
theorem base_succ (ls : List (List PF)) {k : Nat} (h : k < ls.length) : base ls (k + 1) = base ls k + ls[k].length := by
  unfold base
  rw [flat_take ls h, List.length_append, List.length_map]
theorem base_le (ls : List (List PF)) (k : Nat) : base ls k ≤ (flat ls).length := by
  unfold base
  have := congrArg List.length (flat_split ls k)
  rw [List.length_append] at this
  omega
theorem base_all (ls : List (List PF)) {k : Nat} (h : ls.length ≤ k) : base ls k = (flat ls).length := by
  unfold base
  rw [List.take_of_length_le h]
theorem flat_at (ls : List (List PF)) {k m : Nat} (h : k < ls.length) (hm : m < ls[k].length) : (flat ls)[base ls k + m]? = some (k, ls[k][m]) := by
  rw [flat_split ls (k + 1), flat_take ls h, List.append_assoc, List.getElem?_append_right (by unfold base; omega)]
  unfold base
  rw [Nat.add_sub_cancel_left, List.getElem?_append_left (by simpa using hm), List.getElem?_map, List.getElem?_eq_getElem hm]
  rfl
theorem all_in (F : Fence) (n : Nat) (h71 : F.fn 73) (hro : F.round = none) (x y : Nat) (a : Option Addr) (len cap : Nat) (w : World) :
    CallsIn F n Tryz.prog 73 #[.agg #[.int .u64 (x : Nat), .int .u64 (y : Nat), .slice a len cap]] w fun e w' => e = .returned (.func (.func 87) #[] #[.pointer (some ⟨w.heap.size, 0, none⟩)]) ∧ w' = w.alloc (.cells #[.int .u64 (x : Nat), .int .u64 (y : Nat), .slice a len cap] 28) := by
  refine callsIn_of_wp Tryz.func73 rfl h71 ?_ hro
  simp only [Tryz.ntmps73, List.size_toArray, List.length_cons, List.length_nil, Nat.reduceAdd, Nat.reduceSub, Array.replicate_succ, Array.replicate_zero, List.push_toArray, List.append_toArray, List.nil_append, List.cons_append]
  gi_wp2
  go_ret
  exact ⟨rfl, rfl⟩
set_option maxRecDepth 100000 in
set_option maxHeartbeats 4000000 in
theorem all1_in (F : Fence) (n : Nat) (h97 : F.fn 87) (hro : F.round = none) (hn : 1 ≤ n) (l xb n₀ : Nat) (x y : Nat) (a : Option Addr) (len cap : Nat) (ls : List (List PF)) (X : List XF) (hX : X.map (·.1) = flat ls) (hlen : len = ls.length) (J Jx : List XF → World → Prop) (B : Nat)
    (hY : ∀ pre x W, J pre W → pre.length < X.length → YieldAt F (n - 1) Tryz.prog l (encX x) W fun e W' =>
      (e = .returned (.bool true) ∧ J (pre ++ [x]) W' ∧ Below n₀ W W') ∨ (e = .returned (.bool false) ∧ Jx (pre ++ [x]) W'))
    (hJa : ∀ pre W o, J pre W → J pre (W.alloc o)) (W0 : World) (hn0 : n₀ = W0.heap.size) (W : World) (hb : Below n₀ W0 W) (c2 : W.cell? ⟨xb, 2, none⟩ = some (.slice a len cap)) (hL : LevsAt W0 (.slice a len cap) ls) (h0 : J [] W) :
    CallsIn F n Tryz.prog 87 #[.func (.yield l) #[] #[], .pointer (some ⟨xb, 0, none⟩)] W fun e W' => (∃ v, e = .returned v) ∧
      ((∃ ys, ys = X ∧ J ys W') ∨ (∃ pre, pre <+: X ∧ Jx pre W')) := by
  have hlx : X.length = (flat ls).length := by rw [← hX, List.length_map]
  have hup : ∀ w', Below n₀ W0 w' → Upd (fun _ => False) W0 w' := fun w' h => Upd.of_below (by rw [← hn0]; exact h)
  have HLEN := Lib.hid hlen
  have HLX := Lib.hid hlx
  have HX := Lib.hid hX
  have HL := Lib.hid hL
  have hlb : len ≤ 9223372036854775807 := by
    obtain ⟨_, _, e, h3, h4⟩ := hL.slice
    rw [hlen]
    unfold maxLen at h4
    omega
  have HY := Lib.hid hY
  have HJA := Lib.hid hJa
  have HUP := Lib.hid hup
  have HN0 := Lib.hid hn0
  clear hlen hlx hX hL hn0 hY hJa hup
  refine callsIn_of_wp Tryz.func87 rfl h97 ?_ hro
  simp only [Tryz.ntmps87, List.size_toArray, List.length_cons, List.length_nil, Nat.reduceAdd, Nat.reduceSub, Array.replicate_succ, Array.replicate_zero, List.push_toArray, List.append_toArray, List.nil_append, List.cons_append]
  gi_wp2
  gi_loopw [10] (fun i wr => ∃ k : Nat, i = .int .i64 k ∧ k ≤ len ∧ J (X.take (base ls k)) wr ∧ Below n₀ W0 wr) (fun i _ => len - (intOf i).toNat)
  case atStart => exact ⟨0, rfl, by omega, h0, hb⟩
  case round =>
    obtain ⟨k, rfl, hk, hJ, hbl⟩ := hrel
    by_cases hlt : k < len
    · have hks : k < ls.length := by rw [← HLEN.out]; exact hlt
      obtain ⟨g, o, la, lc, rfl, d0, l1, m1, m2⟩ := HL.out.cell hks
      have d1 := cell_upd (HUP.out wr hbl) d0 (fun f => f)
      clear d0
      have hlt2 : (k : Int) < (len : Int) := by omega
      have HKS := Lib.hid hks
      generalize hlv : ls[k] = lv at *
      have HLV := Lib.hid hlv
      have L1 := Lib.hid l1
      have hl9 : lv.length ≤ 9223372036854775807 := by unfold maxLen at m2; omega
      clear hlv l1 c2
      gi_wp2
      obtain ⟨W1, hW1⟩ : ∃ W1, W1 = wr := ⟨_, rfl⟩
      gi_loopw [17] (fun j wz => ∃ m : Nat, j = .int .i64 m ∧ m ≤ lv.length ∧ J (X.take (base ls k + m)) wz ∧ Below n₀ W0 wz) (fun j _ => lv.length - (intOf j).toNat)
      case atStart => exact ⟨0, rfl, by omega, by rw [Nat.add_zero]; exact hJ, hbl⟩
      case round =>
        obtain ⟨m, rfl, hm, hJ2, hb2⟩ := hrel
        by_cases hml : m < lv.length
        · have hml2 : (m : Int) < (lv.length : Int) := by omega
          have hat : (flat ls)[base ls k + m]? = some (k, lv[m]) := by
            have hlv := HLV.out
            subst hlv
            exact flat_at ls HKS.out hml
          have hp : base ls k + m < X.length := by
            rw [HLX.out]
            exact (List.getElem?_eq_some_iff.1 hat).1
          have hxp : X[base ls k + m].1 = (k, lv[m]) := by
            have := congrArg (fun l => l[base ls k + m]?) HX.out
            simp only [List.getElem?_map, List.getElem?_eq_getElem hp, Option.map_some, hat] at this
            exact Option.some.inj this
          have htk : X.take (base ls k + (m + 1)) = X.take (base ls k + m) ++ [X[base ls k + m]] := by rw [← Nat.add_assoc, List.take_succ_eq_append_getElem hp]
          have h2 := L1.out.upd0 (HUP.out wr hb2)
          obtain ⟨g3, o3, rfl, c0, c1, c3, c4⟩ := h2.cell hml
          have henc : encX X[base ls k + m] = #[.int .i64 (k : Nat), agF lv[m]] := by
            show #[Value.int .i64 ((X[base ls k + m].1.1 : Nat) : Int), agF X[base ls k + m].1.2] = _
            rw [hxp]
          have hlenp : (X.take (base ls k + m)).length < X.length := by rw [List.length_take]; omega
          generalize hf : lv[m] = f at *
          obtain ⟨fn, tmps, assign, body, hy, hR⟩ := HY.out _ X[base ls k + m] _ (HJA.out _ _ (.cells #[.int .u64 (f.id : Nat), .string f.low, .string f.high, .int .i64 f.cells] 72) hJ2) hlenp
          rw [henc] at hy
          unfold agF at hy
          have HTK := Lib.hid htk
          have hbz : Below n₀ W0 (wr.alloc (.cells #[.int .u64 (f.id : Nat), .string f.low, .string f.high, .int .i64 f.cells] 72)) := hb2.alloc (by have := hb2.size; have := HN0.out; omega) _
          clear htk hxp hat hf henc h2
          gi_wp2
          refine hR.mono ?_
          rintro e W3 (⟨rfl, hJ3, hk3⟩ | ⟨rfl, hJx3⟩)
          · gi_wp2
            go_roundw
            case rel => exact ⟨m + 1, by go_num, by omega, by rw [HTK.out]; exact hJ3, hbz.trans hk3⟩
            case measure => simp [intOf]; omega
          · gi_wp2
            refine bodyPost_ret (results_none rfl _ _ _) rfl ?_
            exact ⟨⟨_, rfl⟩, .inr ⟨_, by rw [← HTK.out]; exact List.take_prefix _ _, hJx3⟩⟩
        · have hge : ¬ (m : Int) < (lv.length : Int) := by omega
          have hbs : base ls k + m = base ls (k + 1) := by
            have hlv := HLV.out
            subst hlv
            rw [base_succ ls HKS.out]
            omega
          rw [hbs] at hJ2
          clear hbs
          gi_wp2
          go_roundw
          case rel => exact ⟨k + 1, by go_num, by omega, hJ2, hb2⟩
          case measure => simp [intOf]; omega
    · have hge : ¬ (k : Int) < (len : Int) := by omega
      have hall : X.take (base ls k) = X := by
        rw [base_all ls (by have := HLEN.out; omega), ← HLX.out, List.take_length]
      rw [hall] at hJ
      clear hall
      gi_wp2
      go_end0
      exact ⟨⟨_, rfl⟩, .inl hJ⟩
theorem all_stops (F : Fence) (n : Nat) (h97 : F.fn 87) (hro : F.round = none) (hn : 1 ≤ n) (xb : Nat) (x y : Nat) (a : Option Addr) (len cap : Nat) (ls : List (List PF)) (X : List XF) (hX : X.map (·.1) = flat ls) (hlen : len = ls.length) (w W0 : World) (hb0 : Below w.heap.size w W0)
    (hxb : W0.heap[xb]? = some (.cells #[.int .u64 (x : Nat), .int .u64 (y : Nat), .slice a len cap] 28 (0, 0))) (hL : LevsAt w (.slice a len cap) ls) :
    SeqStopsK F n Tryz.prog 87 #[.pointer (some ⟨xb, 0, none⟩)] encX (Below w.heap.size) (fun ys => ys = X) (fun pre => pre <+: X) X.length W0 := fun l J Jx W hW hJ _ hY h0 =>
  all1_in F n h97 hro hn l xb w.heap.size x y a len cap ls X hX hlen J Jx 0 hY (fun pre W o h => hJ _ _ _ none h (World.grownBy_alloc W o none) (fun r e => by cases e)) w rfl W (hb0.trans (hW.mono hb0.size))
    (cell_of_heap ((Upd.of_below (S := fun _ => False) hW).keep hxb (fun f => f)) 2) hL h0
end Go.Proofs.YtgkegfgdpekehaaGreat
