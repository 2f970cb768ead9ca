/- The walks of part, may, weight, Unlike. -/
import Derived.Test.YtkkickalleelkaaH
namespace Go.Proofs.Ytkkickalleelkaa
open Go.RowKit Go.Acre
def fo (x y : Nat) : Option Ordering := FloatKind.f64.format.order x y
def topF : Nat := 4787326403894837248
def geZ (x : Nat) : Bool := FloatKind.f64.format.order x 0 == some .gt || FloatKind.f64.format.order x 0 == some .eq
def leT (x : Nat) : Bool := FloatKind.f64.format.order x 4787326403894837248 == some .lt || FloatKind.f64.format.order x 4787326403894837248 == some .eq
def wholeB (n : Int) (x : Nat) : Bool := FloatKind.f64.format.order (floatOfInt .f64 n) x == some .eq
def PartPost (n : Int) (b : Bool) (w : World) (e : Ending) (w' : World) : Prop := e = .returned (.tuple #[.int .u64 n, .bool b]) ∧ w = w'
theorem part_low {x : Nat} (w : World) (h : geZ x = false) : Calls Try.prog 37 #[.float .f64 x] w (PartPost 0 false w) := by
  unfold geZ at h
  go_enter Try.func37, Try.ntmps37
  go_wp2_with fail
  go_ret2
  exact ⟨rfl, rfl⟩
theorem part_high {x : Nat} (w : World) (h : geZ x = true) (h2 : leT x = false) : Calls Try.prog 37 #[.float .f64 x] w (PartPost 0 false w) := by
  unfold geZ at h
  unfold leT at h2
  go_enter Try.func37, Try.ntmps37
  go_wp2_with fail
  go_ret2
  exact ⟨rfl, rfl⟩
theorem part_val {x : Nat} (w : World) (h : geZ x = true) (h2 : leT x = true) {n : Int} (hn : floatToIntVal .f64 x .u64 = some n) : Calls Try.prog 37 #[.float .f64 x] w (PartPost n (wholeB n x) w) := by
  have hc : ∀ w' : World, (convert 60 31 (.float .f64 x)).run Try.prog w' = .ok (.int .u64 n) w' := fun w' => run_convert_float_int w' 60 31 .f64 .u64 x n (by rw [Try.underlying60]; rfl) Try.underlying31 hn
  unfold geZ at h
  unfold leT at h2
  unfold wholeB
  clear hn
  go_enter Try.func37, Try.ntmps37
  go_wp2_with fail
  go_ret2
  exact ⟨rfl, rfl⟩
def partC (x : Nat) : Bool := geZ x && leT x && (match floatToIntVal .f64 x .u64 with | some n => wholeB n x | none => false)
def PartIs (x : Nat) (b : Bool) : Prop := ∀ w, Calls Try.prog 37 #[.float .f64 x] w (fun e w' => ∃ n : Int, PartPost n b w e w')
theorem part_is (x : Nat) (b : Bool) (h : partC x = b) (h2 : (geZ x && leT x && (floatToIntVal .f64 x .u64).isNone) = false) : PartIs x b := by
  intro w
  subst h
  unfold partC
  cases h3 : geZ x with
  | false => exact (part_low w h3).mono (fun e w' h => ⟨0, h⟩)
  | true =>
    cases h4 : leT x with
    | false => exact (part_high w h3 h4).mono (fun e w' h => ⟨0, h⟩)
    | true =>
      cases h5 : floatToIntVal .f64 x .u64 with
      | none => rw [h3, h4, h5] at h2; cases h2
      | some n => exact (part_val w h3 h4 h5).mono (fun e w' h => ⟨n, h⟩)
def MayIs (re im : Nat) (b : Bool) : Prop := ∀ w, Calls Try.prog 32 #[.complex .f64 re im] w (BoolPost b w)
theorem may_is {re im : Nat} {a b : Bool} (h1 : PartIs re a) (h2 : PartIs im b) : MayIs re im (a && b) := by
  intro w
  have H1 := Lib.hid h1
  have H2 := Lib.hid h2
  clear h1 h2
  go_enter Try.func32, Try.ntmps32
  go_wp2_with fail
  refine (H1.out _).mono ?_
  rintro e w1 ⟨n, rfl, rfl⟩
  go_wp2_with fail
  refine (H2.out _).mono ?_
  rintro e w1 ⟨m, rfl, rfl⟩
  cases a
  · go_wp2_with fail
    go_ret
    exact ⟨rfl, rfl⟩
  · go_wp2_with fail
    go_ret
    exact ⟨rfl, rfl⟩
theorem weight_any {re im r : Nat} (h : floatBits .add .f64 re im = some r) (w : World) : Calls Try.prog 26 #[.complex .f64 re im] w (fun e w' => e = .returned (.float .f64 r) ∧ w = w') := by
  have hc : ∀ w' : World, (binOp .add 60 (.float .f64 re) (.float .f64 im)).run Try.prog w' = .ok (.float .f64 r) w' := fun w' => run_float_arith w' .add 60 .f64 re im r h
  clear h
  go_enter Try.func26, Try.ntmps26
  go_wp2_with fail
  go_ret
  exact ⟨rfl, rfl⟩
theorem unlike_no {a b c d : Nat} {p q : Bool} (h1 : MayIs a b p) (h2 : MayIs c d q) (h : (p && q) = false) (w : World) : Calls Try.prog 17 #[.complex .f64 a b, .complex .f64 c d] w (fun e w' => e = .returned (.int .u64 0) ∧ w = w') := by
  have H1 := Lib.hid h1
  have H2 := Lib.hid h2
  clear h1 h2
  cases p
  · clear h
    go_enter Try.func17, Try.ntmps17
    go_wp2_with fail
    refine (H1.out _).mono ?_
    rintro e w1 ⟨rfl, rfl⟩
    go_wp2_with fail
    go_ret
    exact ⟨rfl, rfl⟩
  · obtain rfl : q = false := by simpa using h
    clear h
    go_enter Try.func17, Try.ntmps17
    go_wp2_with fail
    refine (H1.out _).mono ?_
    rintro e w1 ⟨rfl, rfl⟩
    go_wp2_with fail
    refine (H2.out _).mono ?_
    rintro e w1 ⟨rfl, rfl⟩
    go_wp2_with fail
    go_ret
    exact ⟨rfl, rfl⟩
theorem may_of (re im : Nat) (b : Bool) (h : (partC re && partC im) = b) (h1 : (geZ re && leT re && (floatToIntVal .f64 re .u64).isNone) = false) (h2 : (geZ im && leT im && (floatToIntVal .f64 im .u64).isNone) = false) : MayIs re im b := by
  subst h
  exact may_is (part_is re _ rfl h1) (part_is im _ rfl h2)
theorem may_0 : MayIs 4619567317775286272 4607182418800017408 true := may_of _ _ _ (by kernel_rfl) (by kernel_rfl) (by kernel_rfl)
theorem may_1 : MayIs 4617315517961601024 4616189618054758400 true := may_of _ _ _ (by kernel_rfl) (by kernel_rfl) (by kernel_rfl)
set_option maxRecDepth 100000 in
theorem unlike_works (w : World) : Calls Try.prog 17 #[.complex .f64 4619567317775286272 4607182418800017408, .complex .f64 4617315517961601024 4616189618054758400] w (fun e w' => e = .returned (.int .u64 5) ∧ w = w') := by
  have hc : ∀ w' : World, (binOp .sub 28 (.complex .f64 4619567317775286272 4607182418800017408) (.complex .f64 4617315517961601024 4616189618054758400)).run Try.prog w' = .ok (.complex .f64 4611686018427387904 13837309855095848960) w' := fun w' => run_complex_sum w' .sub (.inr rfl) 28 .f64 _ _ _ _ _ _ (by kernel_rfl)
  have hn1 : ∀ w' : World, (Op.unary UnOp.neg (.float .f64 4611686018427387904)).run Try.prog w' = .ok (.float .f64 13835058055282163712) w' := fun w' => by kernel_rfl
  have hn2 : ∀ w' : World, (Op.unary UnOp.neg (.float .f64 13837309855095848960)).run Try.prog w' = .ok (.float .f64 4613937818241073152) w' := fun w' => by kernel_rfl
  have hm1 : ∀ w' : World, (Builtin.max_ #[60, 60] 60 #[.float .f64 4611686018427387904, .float .f64 13835058055282163712]).run Try.prog w' = .ok (.float .f64 4611686018427387904) w' := fun w' => by kernel_rfl
  have hm2 : ∀ w' : World, (Builtin.max_ #[60, 60] 60 #[.float .f64 13837309855095848960, .float .f64 4613937818241073152]).run Try.prog w' = .ok (.float .f64 4613937818241073152) w' := fun w' => by kernel_rfl
  have hk1 : ∀ w' : World, (convert 60 31 (.float .f64 4611686018427387904)).run Try.prog w' = .ok (.int .u64 2) w' := fun w' => run_convert_float_int w' 60 31 .f64 .u64 _ 2 (by rw [Try.underlying60]; rfl) Try.underlying31 (by kernel_rfl)
  have hk2 : ∀ w' : World, (convert 60 31 (.float .f64 4613937818241073152)).run Try.prog w' = .ok (.int .u64 3) w' := fun w' => run_convert_float_int w' 60 31 .f64 .u64 _ 3 (by rw [Try.underlying60]; rfl) Try.underlying31 (by kernel_rfl)
  go_enter Try.func17, Try.ntmps17
  go_wp2_with fail
  refine (may_0 _).mono ?_
  rintro e w1 ⟨rfl, rfl⟩
  go_wp2_with fail
  refine (may_1 _).mono ?_
  rintro e w1 ⟨rfl, rfl⟩
  go_wp2_with fail
  go_ret
  exact ⟨rfl, rfl⟩
end Go.Proofs.Ytkkickalleelkaa
