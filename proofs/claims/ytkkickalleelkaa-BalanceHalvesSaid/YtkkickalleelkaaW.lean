/- The walk of BalanceLoads. -/
import Derived.Test.YtkkickalleelkaaV
namespace Go.Proofs.Ytkkickalleelkaa
open Go.RowKit Go.Acre
def CellsIn (w : World) (a : Option Addr) (n cap : Nat) (l : List Ce) : Prop := n = l.length ∧ CellsAt w (.slice a n cap) l ∧ ∀ f ∈ l, CeOk f
theorem order_cx (p : Int × Int) : (FloatKind.f64.format.order (floatOfInt .f64 p.1) (floatOfInt .f64 p.1) == some .eq) = true ∧ (FloatKind.f64.format.order (floatOfInt .f64 p.2) (floatOfInt .f64 p.2) == some .eq) = true := by
  rw [fl_self, fl_self]
  exact ⟨rfl, rfl⟩
set_option maxHeartbeats 1000000 in
set_option maxRecDepth 100000 in
theorem loads_any {w : World} {a : Option Addr} {n cap : Nat} {l : List Ce} (hl : CellsIn w a n cap l) (asked : Int) (ha : -9223372036854775808 ≤ asked ∧ asked ≤ 9223372036854775807) (lo hi : ByteArray) :
    Calls Try.prog 3 #[.slice a n cap, .int .i64 asked, .agg #[.string lo, .string hi]] w (PureUpd (.bool true) w) := by
  obtain ⟨hn, hc, hok⟩ := hl
  have hu0 : Upd (fun _ => False) w (w.alloc (.cells #[.string lo, .string hi] 24)) := (Upd.refl _ w).alloc _
  have hx := heap_alloc (w := w) (.cells #[.string lo, .string hi] 24)
  obtain ⟨m, hm⟩ : ∃ m : Nat, min (n : Int) 300 = (m : Int) := ⟨min n 300, by omega⟩
  have hmn : m ≤ n := by omega
  have hm300 : m ≤ 300 := by omega
  have hcap := hc.fits.2.1
  have hmc : (m : Int) ≤ (cap : Int) := by omega
  have hm0 : (0 : Int) ≤ (m : Int) := by omega
  have HC := Lib.hid ((hc.take m hmn).upd0 hu0)
  have HOK : Hid (∀ f ∈ l.take m, CeOk f) := Lib.hid (fun f hf => hok f (List.mem_of_mem_take hf))
  have HU := Lib.hid hu0
  have HX := Lib.hid hx
  clear hc hok hu0 hx hn
  generalize l.take m = lm at *
  go_enter Try.func3, Try.ntmps3
  go_upto_region 1 with fail
  generalize w.alloc (.cells #[.string lo, .string hi] 24) = wb at *
  generalize w.heap.size = xb at *
  go_wp2_with fail
  have hlm := HC.out.fits.1
  refine (own_any HC.out hm300).mono ?_
  rintro e w1 ⟨oa, oc, rfl, how, hu1⟩
  rw [← hlm] at how
  have HO := Lib.hid (show CellsAt w1 (.slice oa m oc) lm from by have h := RowAt.of_own how; rw [hlm] at h ⊢; exact h)
  have HU1 := Lib.hid hu1
  rw [← hlm]
  have HLM := Lib.hid hlm
  clear how hu1 hlm
  obtain ⟨p0, p1, _, _⟩ := box2 (HU1.out.keep HX.out (fun f => f))
  go_wp2_with fail
  refine (middle_any HO.out HOK.out hm300 lo hi).mono ?_
  rintro e w2 ⟨rfl, hu2⟩
  rw [dist_eq]
  have HO2 := Lib.hid (HO.out.upd0 hu2)
  have HU2 := Lib.hid (HU1.out.trans hu2 (fun _ _ f => f))
  clear hu2 p0 p1 HO
  obtain ⟨p0, p1, _, _⟩ := box2 (HU2.out.keep HX.out (fun f => f))
  go_wp2_with fail
  refine (rmiddle_any (HC.out.upd0 HU2.out) HOK.out hm300 lo hi).mono ?_
  rintro e w3 ⟨rfl, hu3⟩
  have HU3 := Lib.hid (HU2.out.trans hu3 (fun _ _ f => f))
  have HO3 := Lib.hid (HO2.out.upd0 hu3)
  clear hu3 p0 p1 HO2 HU1 HU2 HX
  have HC3 := Lib.hid (HC.out.upd0 HU3.out)
  clear HC
  generalize midR lo (rD (rowsOf lo hi lm)) = r at *
  obtain ⟨rs, rb⟩ := r
  go_upto_region 5 with fail
  go_wp2_with fail
  refine (load_any HO3.out HOK.out hm300 asked ha).mono ?_
  rintro e w4 ⟨rfl, hu4⟩
  have HO4 := Lib.hid (HO3.out.upd0 hu4)
  have HC4 := Lib.hid (HC3.out.upd0 hu4)
  have HU4 := Lib.hid (HU3.out.trans hu4 (fun _ _ f => f))
  clear hu4 HO3 HC3 HU3
  go_wp2_with fail
  refine (rload_any HC4.out HOK.out hm300 asked ha).mono ?_
  rintro e w5 ⟨rfl, hu5⟩
  have HO5 := Lib.hid (HO4.out.upd0 hu5)
  have HC5 := Lib.hid (HC4.out.upd0 hu5)
  have HU5 := Lib.hid (HU4.out.trans hu5 (fun _ _ f => f))
  clear hu5 HO4 HC4 HU4
  go_wp2_with fail
  refine (complex_any _ _).mono ?_
  rintro e w6 ⟨rfl, hu6⟩
  have HO6 := Lib.hid (HO5.out.upd0 hu6)
  have HC6 := Lib.hid (HC5.out.upd0 hu6)
  have HU6 := Lib.hid (HU5.out.trans hu6 (fun _ _ f => f))
  clear hu6 HO5 HC5 HU5
  generalize loadP lm asked = p at *
  obtain ⟨q1, q2⟩ := order_cx p
  unfold cxOf
  go_wp2_with fail
  refine (same_any HO6.out HC6.out).mono ?_
  rintro e w7 ⟨rfl, hu7⟩
  have HU7 := Lib.hid (HU6.out.trans hu7 (fun _ _ f => f))
  clear hu7 HO6 HC6 HU6
  go_wp2_with fail
  refine (works_any _).mono ?_
  rintro e w8 ⟨rfl, hu8⟩
  go_wp2_with fail
  go_ret
  exact ⟨rfl, (HU.out.trans HU7.out (fun _ _ f => f)).trans hu8 (fun _ _ f => f)⟩
theorem i64_wf {n : Int} (h : (Lit.int .i64 n).wf = true) : -9223372036854775808 ≤ n ∧ n ≤ 9223372036854775807 := by
  simp [Lit.wf, IntKind.min, IntKind.max, IntKind.signed, IntKind.bits] at h
  omega
theorem loads_law (a : Option Addr) (n cap : Nat) (l : List Ce) (asked : Int) (lo hi : ByteArray) (w : World) (h0 : CellsIn w a n cap l) (h1 : (Lit.int .i64 asked).wf = true) (_h2 : lo.size ≤ maxLen ∧ hi.size ≤ maxLen) :
    Calls Try.prog 3 #[.slice a n cap, .int .i64 asked, .agg #[.string lo, .string hi]] w (PureUpd (.bool true) w) :=
  loads_any h0 asked (i64_wf h1) lo hi
end Go.Proofs.Ytkkickalleelkaa
