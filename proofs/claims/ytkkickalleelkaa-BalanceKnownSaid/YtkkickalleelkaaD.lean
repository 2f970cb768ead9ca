/- The walks of Own, Same, Load (both), Complex; a float made of an integer is like itself. -/
import Derived.Test.YtkkickalleelkaaC
import Derived.Laws.FloatBits
import Derived.IntWalk
namespace Go.Proofs.Ytkkickalleelkaa
open Go.RowKit Go.Acre
theorem read_word (f : Ieee.Format) (neg : Bool) {r : Nat} (h : r ≤ f.infRung) (s : Bool) (t : Nat) : f.read (f.word neg r) ≠ .nan s t := by
  have hl := f.infRung_lt
  have hr : f.word neg r % f.signWeight = r := by
    unfold Ieee.Format.word
    split
    · rw [Nat.add_mod_left, Nat.mod_eq_of_lt (by omega)]
    · rw [Nat.mod_eq_of_lt (by omega)]
  unfold Ieee.Format.read
  simp only [hr]
  split
  · simp
  · split
    · simp
    · split
      · simp
      · omega
theorem order_self (f : Ieee.Format) (neg : Bool) (mag : Nat) (place : Int) : f.order (f.nearest neg mag place) (f.nearest neg mag place) = some .eq := by
  have h : ∀ s t, f.read (f.nearest neg mag place) ≠ .nan s t := by
    unfold Ieee.Format.nearest
    dsimp only
    split
    · exact read_word f neg (Nat.zero_le _)
    · exact read_word f neg (Nat.min_le_right _ _)
  unfold Ieee.Format.order
  generalize f.read (f.nearest neg mag place) = d at *
  cases d with
  | nan s t => exact absurd rfl (h s t)
  | infinity s => simp [Ieee.Datum.order]
  | number s m i => simp [Ieee.Datum.order]
theorem fl_self (n : Int) : FloatKind.f64.format.order (floatOfInt .f64 n) (floatOfInt .f64 n) = some .eq := order_self _ _ _ _
def lsum (l : List Ce) : Nat := (l.map fun f => f.row.size + f.col.size + f.val.size).sum
theorem lsum_take (l : List Ce) {k : Nat} (h : k < l.length) : lsum (l.take (k + 1)) = lsum (l.take k) + (l[k].row.size + l[k].col.size + l[k].val.size) := by
  unfold lsum
  rw [List.take_succ_eq_append_getElem h, List.map_append, List.sum_append]
  simp
theorem lsum_le (l : List Ce) (h : ∀ f ∈ l, CeOk f) : lsum l ≤ l.length * 422212465053696 := by
  induction l with
  | nil => simp [lsum]
  | cons f r ih =>
    have h1 := ih (fun g hg => h g (List.mem_cons_of_mem _ hg))
    obtain ⟨a, b, c, _⟩ := h f List.mem_cons_self
    have e : lsum (f :: r) = (f.row.size + f.col.size + f.val.size) + lsum r := by simp [lsum]
    rw [e, List.length_cons]
    omega
/-- what cells and what was asked weigh, as numbers -/
def loadP (l : List Ce) (asked : Int) : Int × Int := (min (lsum l : Nat) 1099511627776, max 0 (min asked 1099511627776))
def cxOf (p : Int × Int) : Value := .complex .f64 (floatOfInt .f64 p.1) (floatOfInt .f64 p.2)
theorem CellsAt.fits {w : World} {a : Option Addr} {n cap : Nat} {l : List Ce} (h : CellsAt w (.slice a n cap) l) : n = l.length ∧ n ≤ cap ∧ cap ≤ maxLen := by
  obtain ⟨_, _, e, h1, h2⟩ := h.slice
  simp only [Value.slice.injEq] at e
  obtain ⟨_, rfl, rfl⟩ := e
  exact ⟨rfl, h1, h2⟩
theorem cx_eq {x y : Int} {p : Int × Int} (h1 : p.1 = x) (h2 : p.2 = y) : Ending.returned (.complex .f64 (floatOfInt .f64 x) (floatOfInt .f64 y)) = .returned (cxOf p) := by
  subst h1 h2
  rfl
set_option maxHeartbeats 1000000 in
set_option maxRecDepth 100000 in
theorem load_any {w : World} {a : Option Addr} {n cap : Nat} {l : List Ce} (h : CellsAt w (.slice a n cap) l) (hok : ∀ f ∈ l, CeOk f) (hlen : n ≤ 300) (asked : Int) (ha : -9223372036854775808 ≤ asked ∧ asked ≤ 9223372036854775807) :
    Calls Try.prog 9 #[.slice a n cap, .int .i64 asked] w (PureUpd (cxOf (loadP l asked)) w) := by
  obtain ⟨hn, h1, h2⟩ := h.fits
  have HS := lsum_le l hok
  have H := Lib.hid h
  have HOK := Lib.hid hok
  have HN := Lib.hid hn
  have HL : ∀ k, k ≤ n → lsum (l.take k) ≤ 126663739519795200 := fun k hk => by
    have := lsum_le (l.take k) (fun f hf => hok f (List.mem_of_mem_take hf))
    rw [List.length_take] at this
    omega
  have HLT := Lib.hid HL
  clear h hok hn HL HS
  go_enter Try.func9, Try.ntmps9
  go_upto_region 3 with fail
  go_loopw [5, 10] (fun s i wr => ∃ k : Nat, s = .int .i64 (lsum (l.take k) : Nat) ∧ i = .int .i64 k ∧ k ≤ n ∧ Upd (fun _ => False) w wr) (fun _ i _ => n - (intOf i).toNat)
  case atStart => exact ⟨0, rfl, rfl, by omega, Upd.refl _ _⟩
  case round =>
    obtain ⟨k, rfl, rfl, hk, hu⟩ := hrel
    have hsk := HLT.out k hk
    by_cases hlt : k < n
    · have hlti : (k : Int) < (n : Int) := by omega
      have hk0 : (0 : Int) ≤ (k : Int) := by omega
      have hkl : k < l.length := by rw [← HN.out]; exact hlt
      obtain ⟨g, o, rfl, c0, c1, c2, c3, c4⟩ := (H.out.upd0 hu).cell hkl
      have HT := Lib.hid (lsum_take l hkl)
      obtain ⟨z0, z1, z4, _⟩ := HOK.out l[k] (List.getElem_mem hkl)
      have hsk2 := HLT.out (k + 1) hlt
      rw [HT.out] at hsk2
      generalize l[k] = f at *
      generalize lsum (l.take k) = s at *
      go_wp2_with fail
      exact ⟨⟨k + 1, by rw [HT.out]; go_num, by go_num, by omega, hu.alloc _⟩, by simp [intOf]; omega⟩
    · have hlti : ¬ (k : Int) < (n : Int) := by omega
      obtain rfl : k = n := by omega
      have e : lsum (l.take k) = lsum l := by rw [HN.out, List.take_length]
      rw [e] at hsk ⊢
      have hp1 : (loadP l asked).1 = min (lsum l : Int) 1099511627776 := rfl
      have hp2 : (loadP l asked).2 = max 0 (min asked 1099511627776) := rfl
      generalize loadP l asked = p at *
      generalize lsum l = s at *
      have HP1 := Lib.hid hp1
      have HP2 := Lib.hid hp2
      clear e hp1 hp2
      go_wp2_with fail
      all_goals
        go_ret
        refine ⟨cx_eq ?_ ?_, hu⟩
        · rw [HP1.out]; omega
        · rw [HP2.out]; omega
def agP (p : Int × Int) : Value := .agg #[.int .u64 p.1, .int .u64 p.2]
theorem ag_eq {x y : Int} {p : Int × Int} (h1 : p.1 = x) (h2 : p.2 = y) : Ending.returned (.agg #[.int .u64 x, .int .u64 y]) = .returned (agP p) := by
  subst h1 h2
  rfl
theorem complex_any (p : Int × Int) (w : World) : Calls Try.prog 10 #[agP p] w (PureUpd (cxOf p) w) := by
  obtain ⟨x, y⟩ := p
  have hu : Upd (fun _ => False) w (w.alloc (.cells #[.int .u64 x, .int .u64 y] 33)) := (Upd.refl _ w).alloc _
  obtain ⟨p0, p1, _, _⟩ := box2 (heap_alloc (w := w) (.cells #[.int .u64 x, .int .u64 y] 33))
  have HU := Lib.hid hu
  unfold agP cxOf
  simp only
  clear hu
  go_enter Try.func10, Try.ntmps10
  go_upto_region 1 with fail
  generalize w.alloc (.cells #[.int .u64 x, .int .u64 y] 33) = wb at *
  generalize w.heap.size = xb at *
  go_wp2_with fail
  go_ret
  exact ⟨rfl, HU.out⟩
set_option maxHeartbeats 1000000 in
set_option maxRecDepth 100000 in
theorem rload_any {w : World} {a : Option Addr} {n cap : Nat} {l : List Ce} (h : CellsAt w (.slice a n cap) l) (hok : ∀ f ∈ l, CeOk f) (hlen : n ≤ 300) (asked : Int) (ha : -9223372036854775808 ≤ asked ∧ asked ≤ 9223372036854775807) :
    Calls Try.prog 11 #[.slice a n cap, .int .i64 asked] w (PureUpd (agP (loadP l asked)) w) := by
  obtain ⟨hn, h1, h2⟩ := h.fits
  have hx := heap_alloc (w := w) (.cells #[.int .u64 0, .int .u64 0] 33)
  have hu0 : Upd (fun _ => False) w (w.alloc (.cells #[.int .u64 0, .int .u64 0] 33)) := (Upd.refl _ w).alloc _
  have H := Lib.hid (h.upd0 hu0)
  have HOK := Lib.hid hok
  have HN := Lib.hid hn
  have HU := Lib.hid hu0
  have HX := Lib.hid hx
  have HL : ∀ k, k ≤ n → lsum (l.take k) ≤ 126663739519795200 := fun k hk => by
    have := lsum_le (l.take k) (fun f hf => hok f (List.mem_of_mem_take hf))
    rw [List.length_take] at this
    omega
  have HLT := Lib.hid HL
  clear h hok hn HL hx hu0
  go_enter Try.func11, Try.ntmps11
  go_upto_region 1 with fail
  generalize w.alloc (.cells #[.int .u64 0, .int .u64 0] 33) = wb at *
  generalize hxb : w.heap.size = xb at *
  have HXB := Lib.hid hxb
  clear hxb
  go_upto_region 3 with fail
  go_loopw [5, 6] (fun s i wr => ∃ k : Nat, s = .int .u64 (lsum (l.take k) : Nat) ∧ i = .int .i64 k ∧ k ≤ n ∧ Upd (fun _ => False) wb wr) (fun _ i _ => n - (intOf i).toNat)
  case atStart => exact ⟨0, rfl, rfl, by omega, Upd.refl _ _⟩
  case round =>
    obtain ⟨k, rfl, rfl, hk, hu⟩ := hrel
    have hsk := HLT.out k hk
    by_cases hlt : k < n
    · have hlti : (k : Int) < (n : Int) := by omega
      have hk0 : (0 : Int) ≤ (k : Int) := by omega
      have hkl : k < l.length := by rw [← HN.out]; exact hlt
      obtain ⟨g, o, rfl, c0, c1, c2, c3, c4⟩ := (H.out.upd0 hu).cell hkl
      have HT := Lib.hid (lsum_take l hkl)
      obtain ⟨z0, z1, z4, _⟩ := HOK.out l[k] (List.getElem_mem hkl)
      have hsk2 := HLT.out (k + 1) hlt
      rw [HT.out] at hsk2
      generalize l[k] = f at *
      generalize lsum (l.take k) = s at *
      have w1 : IntKind.i64.wrap ((f.row.size : Int) + (f.col.size : Int)) = (f.row.size : Int) + (f.col.size : Int) := IntWalk.i64_in _ (by omega)
      have w2 : IntKind.i64.wrap ((f.row.size : Int) + (f.col.size : Int) + (f.val.size : Int)) = (f.row.size : Int) + (f.col.size : Int) + (f.val.size : Int) := IntWalk.i64_in _ (by omega)
      go_upto_region 5 with fail
      go_quiet (fail)
      go_wp2_with fail
      exact ⟨⟨k + 1, by rw [HT.out]; go_num, by go_num, by omega, hu.drewN _⟩, by simp [intOf]; omega⟩
    · have hlti : ¬ (k : Int) < (n : Int) := by omega
      obtain rfl : k = n := by omega
      have e : lsum (l.take k) = lsum l := by rw [HN.out, List.take_length]
      rw [e] at hsk ⊢
      have hp1 : (loadP l asked).1 = min (lsum l : Int) 1099511627776 := rfl
      have hp2 : (loadP l asked).2 = max 0 (min asked 1099511627776) := rfl
      generalize loadP l asked = p at *
      generalize lsum l = s at *
      have HP1 := Lib.hid hp1
      have HP2 := Lib.hid hp2
      have hx2 := hu.keep HX.out (fun f => f)
      obtain ⟨p0, p1, z0, z1⟩ := box2 hx2
      have HX2 := Lib.hid hx2
      clear e hp1 hp2 hx2
      go_wp2_with fail
      all_goals
        refine bodyPost_ret (results_c rfl _ _ xb 33 _ (0, 0) _ rfl (cells2 HX2.out) Try.underlying33 rfl (by kernel_rfl)) rfl ?_
        refine ⟨ag_eq ?_ ?_, (HU.out.trans hu (fun _ _ f => f)).trans (upd2 (b := xb)) (fun i hi e => by have := HXB.out; omega)⟩
        · rw [HP1.out]; omega
        · rw [HP2.out]; omega
end Go.Proofs.Ytkkickalleelkaa
