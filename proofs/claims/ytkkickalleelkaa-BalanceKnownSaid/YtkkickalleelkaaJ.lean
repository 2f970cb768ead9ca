/- Locs in memory; the walk of here. -/
import Derived.Test.YtkkickalleelkaaI
namespace Go.Proofs.Ytkkickalleelkaa
open Go.RowKit Go.Acre
structure Lo where
  group : Int
  nodes : List Int
/-- a loc's slice of nodes -/
structure LoAt (w : World) (v : Value) (l : Lo) : Prop where
  ints : IntsAt .i64 w v l.nodes
  len : l.nodes.length ≤ 100
  wf : ∀ z ∈ l.nodes, -9223372036854775808 ≤ z ∧ z ≤ 9223372036854775807
  gwf : -9223372036854775808 ≤ l.group ∧ l.group ≤ 9223372036854775807
theorem LoAt.upd0 {w w' : World} {v : Value} {l : Lo} (h : LoAt w v l) (hu : Upd (fun _ => False) w w') : LoAt w' v l := ⟨h.ints.upd0 hu, h.len, h.wf, h.gwf⟩
/-- do the first k nodes rise, within N? -/
def riseT (N : Int) (ns : List Int) : Nat → Bool
  | 0 => true
  | k + 1 => riseT N ns k && (decide (0 ≤ ns.getD k 0) && (decide (ns.getD k 0 < N) && (decide (k = 0) || decide (ns.getD (k - 1) 0 < ns.getD k 0))))
def hereB (N : Int) (l : Lo) : Bool := riseT N l.nodes l.nodes.length && (decide (0 < l.nodes.length) && (decide (0 ≤ l.group) && decide (l.group < 12)))
def agLo (l : Lo) (v : Value) : Value := .agg #[.int .i64 l.group, .string ⟨#[]⟩, .string ⟨#[]⟩, .int .u64 0, v]
theorem box5 {w : World} {xb : Nat} {t : TypeId} {a b c d e : Value} (h : w.heap[xb]? = some (.cells #[a, b, c, d, e] t (0, 0))) : w.cell? ⟨xb, 0, none⟩ = some a ∧ w.cell? ⟨xb, 1, none⟩ = some b ∧ w.cell? ⟨xb, 2, none⟩ = some c ∧ w.cell? ⟨xb, 3, none⟩ = some d ∧ w.cell? ⟨xb, 4, none⟩ = some e :=
  ⟨cell_of_heap h 0, cell_of_heap h 1, cell_of_heap h 2, cell_of_heap h 3, cell_of_heap h 4⟩
set_option maxHeartbeats 1000000 in
set_option maxRecDepth 100000 in
theorem here_any {w : World} {l : Lo} {v : Value} (h : LoAt w v l) (N : Int) (hN : -9223372036854775808 ≤ N ∧ N ≤ 9223372036854775807) : Calls Try.prog 31 #[.int .i64 N, agLo l v] w (PureUpd (.bool (hereB N l)) w) := by
  obtain ⟨na, nc, rfl⟩ := h.ints.slice
  obtain ⟨hlen, hwf, hgw⟩ := And.intro h.len (And.intro h.wf h.gwf)
  have hx := heap_alloc (w := w) (.cells #[.int .i64 l.group, .string ⟨#[]⟩, .string ⟨#[]⟩, .int .u64 0, .slice na l.nodes.length nc] 63)
  have hu0 : Upd (fun _ => False) w (w.alloc (.cells #[.int .i64 l.group, .string ⟨#[]⟩, .string ⟨#[]⟩, .int .u64 0, .slice na l.nodes.length nc] 63)) := (Upd.refl _ w).alloc _
  have H := Lib.hid (h.upd0 hu0).ints
  have HU := Lib.hid hu0
  have HX := Lib.hid hx
  have HWF := Lib.hid hwf
  have hhb : hereB N l = (riseT N l.nodes l.nodes.length && (decide (0 < l.nodes.length) && (decide (0 ≤ l.group) && decide (l.group < 12)))) := rfl
  have HHB := Lib.hid hhb
  unfold agLo
  clear h hx hu0 hwf hhb
  generalize hereB N l = hb at *
  obtain ⟨gr, ns⟩ := l
  simp only at hlen hgw H HWF HX HHB HU ⊢
  go_enter Try.func31, Try.ntmps31
  go_upto_region 1 with fail
  generalize w.alloc (.cells #[.int .i64 gr, .string ⟨#[]⟩, .string ⟨#[]⟩, .int .u64 0, .slice na ns.length nc] 63) = wb at *
  generalize w.heap.size = xb at *
  obtain ⟨p0, p1, p2, p3, p4⟩ := box5 HX.out
  go_upto_region 3 with fail
  go_loop [5, 11] (fun s i => ∃ k : Nat, s = .bool (riseT N ns k) ∧ i = .int .i64 k ∧ k ≤ ns.length) (fun _ i => ns.length - (intOf i).toNat)
  case atStart => exact ⟨0, rfl, rfl, by omega⟩
  case round =>
    obtain ⟨k, rfl, rfl, hk⟩ := hrel
    by_cases hlt : k < ns.length
    · have hlti : (k : Int) < (ns.length : Int) := by omega
      have hk0 : (0 : Int) ≤ (k : Int) := by omega
      obtain ⟨g, o, rfl, c0⟩ := H.out.cell hlt
      have hr : riseT N ns (k + 1) = (riseT N ns k && (decide (0 ≤ ns[k]) && (decide (ns[k] < N) && (decide (k = 0) || decide (ns.getD (k - 1) 0 < ns[k]))))) := by
        show (riseT N ns k && (decide (0 ≤ ns.getD k 0) && (decide (ns.getD k 0 < N) && (decide (k = 0) || decide (ns.getD (k - 1) 0 < ns.getD k 0))))) = _
        rw [show ns.getD k 0 = ns[k] from by simp [hlt]]
      have hzw := HWF.out ns[k] (List.getElem_mem hlt)
      cases hrk : riseT N ns k with
      | false =>
        rw [hrk, Bool.false_and] at hr
        have HR := Lib.hid hr
        clear hr hrk
        go_wp2_with fail
        exact ⟨⟨k + 1, by rw [HR.out], by go_num, by omega⟩, by simp [intOf]; omega⟩
      | true =>
        rw [hrk, Bool.true_and] at hr
        by_cases hz0 : 0 ≤ ns[k]
        · rw [decide_eq_true hz0, Bool.true_and] at hr
          by_cases hzN : ns[k] < N
          · rw [decide_eq_true hzN, Bool.true_and] at hr
            cases k with
            | zero =>
              rw [decide_eq_true rfl, Bool.true_or] at hr
              have HR := Lib.hid hr
              rw [Nat.add_zero] at c0
              generalize ns[0] = z at *
              clear hr hrk
              go_wp2_with fail
              exact ⟨⟨0 + 1, by rw [HR.out], by go_num, by omega⟩, by simp [intOf]; omega⟩
            | succ m =>
              have hm : m < ns.length := by omega
              rw [decide_eq_false (by omega), Bool.false_or, show m + 1 - 1 = m from rfl, show ns.getD m 0 = ns[m] from by simp [hm]] at hr
              obtain ⟨g', o', e', c1⟩ := H.out.cell hm
              simp only [Option.some.injEq, Addr.mk.injEq, and_true] at e'
              obtain ⟨rfl, rfl⟩ := e'
              have hmi : (m : Int) < (ns.length : Int) := by omega
              have hm0 : (0 : Int) ≤ (m : Int) := by omega
              have hne : (((m + 1 : Nat) : Int) == 0) = false := by simp; omega
              have hne2 : (((m : Nat) : Int) + 1 == 0) = false := by simp; omega
              generalize ns[m] = pv at *
              generalize ns[m + 1] = z at *
              have HR := Lib.hid hr
              clear hr hrk
              by_cases hpz : pv < z
              · have hd := decide_eq_true hpz
                go_wp2_with fail
                exact ⟨⟨m + 1 + 1, by rw [HR.out]; simp [hpz], by go_num, by omega⟩, by simp [intOf]; omega⟩
              · have hd := decide_eq_false hpz
                go_wp2_with fail
                exact ⟨⟨m + 1 + 1, by rw [HR.out]; simp [hpz], by go_num, by omega⟩, by simp [intOf]; omega⟩
          · rw [decide_eq_false hzN, Bool.false_and] at hr
            have HR := Lib.hid hr
            generalize ns[k] = z at *
            clear hr hrk
            go_wp2_with fail
            exact ⟨⟨k + 1, by rw [HR.out], by go_num, by omega⟩, by simp [intOf]; omega⟩
        · rw [decide_eq_false hz0, Bool.false_and] at hr
          have HR := Lib.hid hr
          generalize ns[k] = z at *
          clear hr hrk
          go_wp2_with fail
          exact ⟨⟨k + 1, by rw [HR.out], by go_num, by omega⟩, by simp [intOf]; omega⟩
    · have hlti : ¬ (k : Int) < (ns.length : Int) := by omega
      obtain rfl : k = ns.length := by omega
      have hq := HHB.out
      cases hrk : riseT N ns ns.length with
      | false =>
        rw [hrk, Bool.false_and] at hq
        have HQ := Lib.hid hq
        clear hq hrk
        go_wp2_with fail
        go_ret
        rw [HQ.out]
        exact ⟨rfl, HU.out⟩
      | true =>
        rw [hrk, Bool.true_and] at hq
        by_cases h0 : 0 < ns.length
        · have h0i : (0 : Int) < (ns.length : Int) := by omega
          rw [decide_eq_true h0, Bool.true_and] at hq
          by_cases h1 : 0 ≤ gr
          · rw [decide_eq_true h1, Bool.true_and] at hq
            by_cases h2 : gr < 12
            · rw [decide_eq_true h2] at hq
              have HQ := Lib.hid hq
              clear hq hrk
              go_wp2_with fail
              go_ret
              rw [HQ.out]
              exact ⟨rfl, HU.out⟩
            · rw [decide_eq_false h2] at hq
              have HQ := Lib.hid hq
              clear hq hrk
              go_wp2_with fail
              go_ret
              rw [HQ.out]
              exact ⟨rfl, HU.out⟩
          · rw [decide_eq_false h1, Bool.false_and] at hq
            have HQ := Lib.hid hq
            clear hq hrk
            go_wp2_with fail
            go_ret
            rw [HQ.out]
            exact ⟨rfl, HU.out⟩
        · have h0i : ¬ (0 : Int) < (ns.length : Int) := by omega
          rw [decide_eq_false h0, Bool.false_and] at hq
          have HQ := Lib.hid hq
          clear hq hrk
          go_wp2_with fail
          go_ret
          rw [HQ.out]
          exact ⟨rfl, HU.out⟩
end Go.Proofs.Ytkkickalleelkaa
