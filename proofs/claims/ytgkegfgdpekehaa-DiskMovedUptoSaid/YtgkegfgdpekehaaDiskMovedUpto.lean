/- DiskMoved: a file that is renamed has its bytes, and as many of them synced; of all names and bytes, as far as the second form's bound goes. -/
import Derived.Test.YtgkegfgdpekehaaRows
import Derived.Test.YtgkegfgdpekehaaDj
import Derived.Test.YtgkegfgdpekehaaT
import Derived.WalkKit
import Derived.ProofKit
import Derived.OpenShut
import Derived.ShutString
import Derived.ChangeOld
import Derived.Below
import Derived.SizedLaws
import Derived.JoinedCond
import Derived.SliceStrings
namespace Go.Proofs.Ytgkegfgdpekehaa.diskMoved
open Go.ChangeShapes Go.WideShapes Go.ChangeAt Go.RowKit
open Go.ChangeMaps (open_string shut_string)
set_option linter.unusedVariables false

theorem own : ownKnob Try.prog.godebug = none := by kernel_rfl
theorem laidOut : laidOutB Try.prog = true := by kernel_rfl

theorem walk (x0 y0 : ByteArray) (x1 y1 : ByteArray) (w : World) (w0 : x0.size ≤ 1048576 ∧ y0.size ≤ 1048576) (w1 : x1.size ≤ 1048576 ∧ y1.size ≤ 1048576) :
    Calls Try.prog 14 #[.agg #[.string x0, .string y0], .agg #[.string x1, .string y1]] w fun e w' => e = .returned (.bool true) ∧ Below w.heap.size w w' := by
  refine (moved_all x0 y0 x1 y1 w w0 w1).mono ?_
  rintro e w' ⟨rfl, hu⟩
  exact ⟨rfl, hu.below (fun _ _ f => f)⟩

set_option maxRecDepth 100000 in
theorem lifted (os : Os) (started : os.Started) (H : Type) (enc : TypeId × Value → H) (F : Stop.Interp) :
    ReturnsInHanded {} Try.checked os 14 .any ((Rows.OpenSpec.upto Rows.diskMovedSpec).pre6 enc Try.prog Try.f14 Rows.diskMovedUptoRow.domain false) (((Rows.OpenSpec.upto Rows.diskMovedSpec).at F).post enc Try.prog Try.f14 false true false false) := by
  refine returnsInHanded_of_cond (C := Try.checked) (s := Rows.OpenSpec.upto Rows.diskMovedSpec) (k := Rows.uptoSmall) rfl own started (by kernel_rfl) Try.func14
    (OpenSpec.witness (enc := enc) (C := Try.checked) (s := Rows.OpenSpec.upto Rows.diskMovedSpec) (k := Rows.uptoSmall) rfl false ⟨#[], #[.agg #[.string ByteArray.empty, .string ByteArray.empty], .agg #[.string ByteArray.empty, .string ByteArray.empty]], []⟩ 8 (by kernel_rfl) (by kernel_rfl) (by kernel_rfl)
      (x := ([.agg [.lit (.string []), .lit (.string [])], .agg [.lit (.string []), .lit (.string [])]], [], [])) (by kernel_rfl) rfl (by kernel_rfl)) ?_
  intro W base args ds gs before hval0 hW hcnd hk _
  have hbulk : Rows.uptoBulkAll (ds ++ gs) ≤ 1048576 := of_decide_eq_true hk
  clear hk
  have hval : ∀ (j : Nat) t v, Try.f14.params[j]? = some t → args[j]? = some v → Value.okWide Try.prog W .any base t v := hval0
  have hW' := hW
  obtain ⟨p, q, hA0, hV, rfl, hfz, hnd⟩ := hW
  have hA : DataW.TrodAll enc Try.prog W 0 (fun _ => true) true Try.f14.params.toList args.toList ds p := hA0
  rw [Try.params14] at hA hval
  obtain ⟨v0, vs0, d0, ds0, p0, q0, hargs, rfl, rfl, h0, r0⟩ := trodAll_cons hA
  obtain ⟨v1, vs1, d1, ds1, p1, q1, rfl, rfl, rfl, h1, r1⟩ := trodAll_cons r0
  obtain ⟨rfl, rfl, rfl⟩ := trodAll_nil r1
  obtain rfl : args = #[v0, v1] := by cases args; simp_all
  obtain ⟨rfl, rfl⟩ := trodVars_none hV
  have k0 := h0
  have lt0 : ∀ x ∈ p0, x.block < W.heap.size := by obtain ⟨m, hm⟩ := k0; exact DataW.trod_lt m _ _ _ hm
  obtain ⟨x0, y0, rfl, rfl⟩ := Acre.strs2_open Try.underlying64 Try.underlying9 (by kernel_rfl) (by kernel_rfl) (hval 0 64 v0 rfl rfl) h0
  have k1 := h1
  have lt1 : ∀ x ∈ p1, x.block < W.heap.size := by obtain ⟨m, hm⟩ := k1; exact DataW.trod_lt m _ _ _ hm
  obtain ⟨x1, y1, rfl, rfl⟩ := Acre.strs2_open Try.underlying64 Try.underlying9 (by kernel_rfl) (by kernel_rfl) (hval 1 64 v1 rfl rfl) h1
  have s0 : x0.size ≤ 1048576 ∧ y0.size ≤ 1048576 := by
    have hb := hbulk
    simp only [List.append_nil, Rows.uptoBulkAll, Rows.uptoBulk] at hb
    have e : x0.data.toList.length = x0.size := by rw [Array.length_toList]; rfl
    have e2 : y0.data.toList.length = y0.size := by rw [Array.length_toList]; rfl
    omega
  have s1 : x1.size ≤ 1048576 ∧ y1.size ≤ 1048576 := by
    have hb := hbulk
    simp only [List.append_nil, Rows.uptoBulkAll, Rows.uptoBulk] at hb
    have e : x1.data.toList.length = x1.size := by rw [Array.length_toList]; rfl
    have e2 : y1.data.toList.length = y1.size := by rw [Array.length_toList]; rfl
    omega
  clear hA0 hval0
  refine (walk x0 y0 x1 y1 W s0 s1).mono fun e W' ⟨he, bel⟩ => ?_
  subst he
  exact ⟨_, rfl, _, _, _, [], _, [], hW', trodAll_mk1 (shut_bool Try.underlying4 _), (trodAll_cons_mk (Below.trod laidOut (by kernel_rfl) (of_decide_eq_true (by kernel_rfl)) k0 bel lt0) (trodAll_cons_mk (Below.trod laidOut (by kernel_rfl) (of_decide_eq_true (by kernel_rfl)) k1 bel lt1) trodAll_mk0)), rfl, bel.frame _, fun h => by cases h⟩

theorem over : Rows.diskMovedUptoRow.holds Try.pinned (Rows.OpenSpec.upto Rows.diskMovedSpec) :=
  OpenClaim.holds_of_cond 14 Try.f14 rfl rfl rfl rfl rfl rfl rfl ⟨rfl, rfl, rfl, rfl, rfl⟩ rfl rfl rfl rfl rfl (by kernel_rfl) Try.func14 (by kernel_rfl)
    (of_decide_eq_true (by kernel_rfl)) (by unfold Func.isWrapper; first | (rw [if_pos (by decide +kernel)]; kernel_rfl) | (rw [if_neg (by decide +kernel)]; exact ⟨rfl, rfl⟩))
    (fun os started H enc _ F => lifted os started H enc F)

/-- THE STATEMENT -/
theorem proved : Rows.DiskMovedUptoSaid := over
#print axioms proved
end Go.Proofs.Ytgkegfgdpekehaa.diskMoved
