/- The walks of Pick's closures and of greatest. -/
import Derived.Test.YtkkickalleelkaaK
import Derived.Test.YtkkickalleelkaaIt
namespace Go.Proofs.Ytkkickalleelkaa
open Go.RowKit Go.Acre
attribute [local go_sem] run_store_float run_store_complex
theorem contains_any {w : World} {v : Value} {zs : List Int} (h : IntsAt .i64 w v zs) (x : Int) (hlen : zs.length ≤ 100) : Calls Try.prog 30 #[v, .int .i64 x] w (BoolPost (zs.contains x) w) := by
  obtain ⟨a, c, rfl⟩ := h.slice
  by_cases h0 : zs = []
  · subst h0
    refine (Try.slices_Contains_int_empty a c x w).mono ?_
    rintro e w' ⟨rfl, rfl⟩
    exact ⟨rfl, rfl⟩
  · have hpos : 0 < zs.length := List.length_pos_iff.2 h0
    obtain ⟨g, o, rfl, _⟩ := h.cell hpos
    refine (Try.slices_Contains_int g o zs.length c zs x w (Nat.le_refl _) (by omega) (fun j hj => ?_)).mono ?_
    · obtain ⟨g', o', e', hc⟩ := h.cell hj
      simp only [Option.some.injEq, Addr.mk.injEq, and_true] at e'
      obtain ⟨rfl, rfl⟩ := e'
      rw [hc]
      simp [hj]
    · rintro e w' ⟨rfl, rfl⟩
      rw [List.take_length]
      exact ⟨rfl, rfl⟩
def FlPost (r : Nat) (b : Bool) (w : World) (e : Ending) (w' : World) : Prop := e = .returned (.tuple #[.float .f64 r, .bool b]) ∧ w = w'
theorem clos25 {x y r : Nat} (h : floatBits .add .f64 x y = some r) (i : Int) (w : World) : Calls Try.prog 25 #[.int .i64 i, .complex .f64 x y] w (FlPost r true w) := by
  have HW : Hid (∀ w', Calls Try.prog 26 #[.complex .f64 x y] w' (fun e w2 => e = .returned (.float .f64 r) ∧ w' = w2)) := fun w' => weight_any h w'
  clear h
  go_enter Try.func25, Try.ntmps25
  go_wp2_with fail
  refine (HW.out _).mono ?_
  rintro e w' ⟨rfl, rfl⟩
  go_wp2_with fail
  go_ret2
  exact ⟨rfl, rfl⟩
def negF (b : Nat) : Nat := b ^^^ 9223372036854775808
theorem run_neg_float (P : Program) (w : World) (b : Nat) : (Op.unary UnOp.neg (.float .f64 b)).run P w = .ok (.float .f64 (negF b)) w := rfl
theorem clos27 {x y r : Nat} (h : floatBits .add .f64 x y = some r) (i : Int) (w : World) : Calls Try.prog 27 #[.int .i64 i, .complex .f64 x y] w (FlPost (negF r) true w) := by
  have HW : Hid (∀ w', Calls Try.prog 26 #[.complex .f64 x y] w' (fun e w2 => e = .returned (.float .f64 r) ∧ w' = w2)) := fun w' => weight_any h w'
  have hn := fun w' : World => run_neg_float Try.prog w' r
  clear h
  go_enter Try.func27, Try.ntmps27
  go_wp2_with fail
  refine (HW.out _).mono ?_
  rintro e w' ⟨rfl, rfl⟩
  go_wp2_with fail
  go_ret2
  exact ⟨rfl, rfl⟩
def gtF (a b : Nat) : Bool := FloatKind.f64.format.order a b == some .gt
def ltF (a b : Nat) : Bool := FloatKind.f64.format.order a b == some .lt
/-- the first of the greatest, among the first k -/
def gfold (ws : List (Nat × Bool)) : Nat → Int × Nat
  | 0 => (-1, 0)
  | k + 1 => if (ws.getD k (0, false)).2 && (decide ((gfold ws k).1 < 0) || gtF (ws.getD k (0, false)).1 (gfold ws k).2) then ((k : Int), (ws.getD k (0, false)).1) else gfold ws k
theorem gfold_ge (ws : List (Nat × Bool)) : ∀ k, -1 ≤ (gfold ws k).1 ∧ (gfold ws k).1 < k
  | 0 => by simp [gfold]
  | k + 1 => by
    unfold gfold
    have := gfold_ge ws k
    split
    · simp only; omega
    · omega
set_option maxHeartbeats 1000000 in
set_option maxRecDepth 100000 in
theorem greatest_c {w : World} {a : Option Addr} {n c : Nat} {qs : List CX} {ws : List (Nat × Bool)} {fn : Nat} (hq : CxAt w a n qs) (hn : n ≤ 12) (hw : ws.length = n) (hfn : fn = 25 ∨ fn = 27)
    (hf : ∀ i (h1 : i < qs.length) (h2 : i < ws.length), Calls Try.prog fn #[.int .i64 (i : Int), cv qs[i]] w (FlPost ws[i].1 ws[i].2 w)) :
    Calls Try.prog 24 #[.slice a n c, .func (.func fn) #[] #[]] w (fun e w' => e = .returned (.int .i64 (gfold ws n).1) ∧ w = w') := by
  rcases hfn with rfl | rfl
  all_goals
    have HQ := Lib.hid hq
    have HNQ := Lib.hid hq.1
    have HF := Lib.hid hf
    have HW := Lib.hid hw
    clear hq hf hw
    go_enter Try.func24, Try.ntmps24
    go_upto_region 4 with fail
    go_loop [5, 6, 13] (fun s m i => ∃ k : Nat, s = .int .i64 (gfold ws k).1 ∧ m = .float .f64 (gfold ws k).2 ∧ i = .int .i64 k ∧ k ≤ n) (fun _ _ i => n - (intOf i).toNat)
    case atStart => exact ⟨0, rfl, rfl, rfl, by omega⟩
    case round =>
      obtain ⟨k, rfl, rfl, rfl, hk⟩ := hrel
      by_cases hlt : k < n
      · have hlti : (k : Int) < (n : Int) := by omega
        have hk0 : (0 : Int) ≤ (k : Int) := by omega
        have h1 : k < qs.length := by rw [← HNQ.out]; exact hlt
        have h2 : k < ws.length := by rw [HW.out]; exact hlt
        obtain ⟨g, o, rfl, d0⟩ := HQ.out.2 k h1
        have hfk := HF.out k h1 h2
        have hgf : gfold ws (k + 1) = if ws[k].2 && (decide ((gfold ws k).1 < 0) || gtF ws[k].1 (gfold ws k).2) then ((k : Int), ws[k].1) else gfold ws k := by
          rw [gfold, show ws.getD k (0, false) = ws[k] from by simp [h2]]
        have hge := gfold_ge ws k
        generalize qs[k] = q at *
        generalize ws[k] = x at *
        obtain ⟨xn, xb⟩ := x
        obtain ⟨bs, hbs⟩ : ∃ bs, (gfold ws k).1 = bs := ⟨_, rfl⟩
        obtain ⟨ms, hms⟩ : ∃ ms, (gfold ws k).2 = ms := ⟨_, rfl⟩
        rw [hbs] at hge
        simp only [hbs, hms] at hgf
        have HE : Hid (gfold ws k = (bs, ms)) := Lib.hid (by rw [← hbs, ← hms])
        rw [hbs, hms]
        obtain ⟨qx, qy⟩ := q
        unfold cv at d0 hfk
        have HFK := Lib.hid hfk
        have HGF := Lib.hid hgf
        clear hfk hgf hbs hms
        go_wp2_with fail
        refine HFK.out.mono ?_
        rintro e w' ⟨rfl, rfl⟩
        cases hxb : xb with
        | false =>
          subst hxb
          have hg2 : gfold ws (k + 1) = (bs, ms) := by rw [HGF.out]; simp [HE.out]
          have HG2 := Lib.hid hg2
          clear hg2
          go_wp2_with fail
          exact ⟨⟨k + 1, by rw [HG2.out], by rw [HG2.out], by go_num, by omega⟩, by simp [intOf]; omega⟩
        | true =>
          subst hxb
          by_cases hb0 : bs < 0
          · have hg2 : gfold ws (k + 1) = ((k : Int), xn) := by rw [HGF.out]; simp [hb0]
            have hbd := decide_eq_true hb0
            have HG2 := Lib.hid hg2
            clear hg2
            go_wp2_with fail
            exact ⟨⟨k + 1, by rw [HG2.out], by rw [HG2.out], by go_num, by omega⟩, by simp [intOf]; omega⟩
          · have hbd := decide_eq_false hb0
            cases hgt : gtF xn ms with
            | false =>
              have hg2 : gfold ws (k + 1) = (bs, ms) := by rw [HGF.out]; simp [hb0, hgt, HE.out]
              have HG2 := Lib.hid hg2
              unfold gtF at hgt
              clear hg2
              go_wp2_with fail
              exact ⟨⟨k + 1, by rw [HG2.out], by rw [HG2.out], by go_num, by omega⟩, by simp [intOf]; omega⟩
            | true =>
              have hg2 : gfold ws (k + 1) = ((k : Int), xn) := by rw [HGF.out]; simp [hgt]
              have HG2 := Lib.hid hg2
              unfold gtF at hgt
              clear hg2
              go_wp2_with fail
              exact ⟨⟨k + 1, by rw [HG2.out], by rw [HG2.out], by go_num, by omega⟩, by simp [intOf]; omega⟩
      · have hlti : ¬ (k : Int) < (n : Int) := by omega
        obtain rfl : k = n := by omega
        go_wp2_with fail
        go_ret
        exact ⟨rfl, rfl⟩
end Go.Proofs.Ytkkickalleelkaa
