/- Lay of dice and of the reference: the numbers modulo 256, for at most 100000 of them. -/
import Derived.Test.YtilojboanilpbaaF
import Derived.Deep.DeepCutAuto
namespace Go.Proofs.Ytilojboanilpbaa
open Go.RowKit Go.Acre

def layM (zs : List Int) : List Int := zs.map (· % 256)

theorem i64_and255 (n : Int) : bits .and .i64 n 255 = n % 256 := by
  have h255 : (BitVec.ofInt 64 255).toNat = 2 ^ 8 - 1 := by decide
  have key : (BitVec.ofInt 64 n &&& BitVec.ofInt 64 255).toNat = (n % ((2 ^ 64 : Nat) : Int)).toNat % 2 ^ 8 := by
    rw [BitVec.toNat_and, BitVec.toNat_ofInt, h255, Nat.and_two_pow_sub_one_eq_mod]
  show IntKind.i64.wrap ((BitVec.ofInt 64 n &&& BitVec.ofInt 64 255).toNat : Nat) = n % 256
  rw [key, IntKind.wrap_i64]
  omega

theorem rlay_byte (q : Int) : wrap64 (q.tmod 256 + 256) % 256 = q % 256 := by
  have h := Int.tmod_add_mul_tdiv q 256
  unfold wrap64
  omega

theorem lay_snoc {zs : List Int} {k : Nat} {q x : Int} (hk : k < zs.length) (hq : zs.getD k 0 = q) (hx : x = q % 256) :
    (layM (zs.take k)).map (Value.int .u8) ++ [.int .u8 x] = (layM (zs.take (k + 1))).map (.int .u8) := by
  have e : zs[k] = q := by rw [← hq]; simp [List.getD, hk]
  rw [List.take_succ_eq_append_getElem hk, e, hx]
  simp [layM]


def BytesPost (bs : List Int) (w : World) (e : Ending) (w' : World) : Prop :=
  ∃ v, e = .returned v ∧ IntsAt .u8 w' v bs ∧ Upd (fun _ => False) w w'

set_option maxHeartbeats 1000000 in
theorem lay_any (v : Value) (zs : List Int) (w : World) (hv : IntsAt .i64 w v zs) (hw : ∀ x ∈ zs, -9223372036854775808 ≤ x ∧ x ≤ 9223372036854775807) (hlen : zs.length ≤ 100000) :
    Calls Try.prog 16 #[v] w (BytesPost (layM zs) w) := by
  obtain ⟨a, cap, rfl⟩ := hv.slice
  obtain ⟨i0, hi, hz0, hz1, hz2⟩ := info_parts Try.info5
  obtain ⟨n, hn⟩ : ∃ n, n = zs.length := ⟨_, rfl⟩
  rw [← hn] at hlen
  have HV := Lib.hid hv
  have HN := Lib.hid hn
  have HW := Lib.hid hw
  clear hv hw
  rw [← hn]
  clear hn
  go_enter Try.func16, Try.ntmps16
  go_wp2_with (at_make; refine wpList_make_own _ rfl _ _ 22 rfl w.heap.size 5 i0 (.int .u8 0) 1 Try.underlying22 hi hz0 hz1 _ _ _ n rfl rfl rfl ?b2 ?b3 ?b4 ?_)
  case b2 => rw [hz2]; omega
  case b3 => unfold maxLen; omega
  case b4 => exact Nat.le_refl _
  intro w1 hown hg
  have hu1 := (Upd.refl (fun _ => False) w).of_grown hg (by intro k hk; cases hk)
  have hsz := hu1.size
  clear hg
  go_wp2_with fail
  go_loopw [3, 11] (fun out i wr => ∃ (k : Nat), i = .int .i64 k ∧ k ≤ n ∧ wr.ownsRow w.heap.size 5 1 out k ((layM (zs.take k)).map (.int .u8)) ∧ Upd (fun _ => False) w wr) (fun _ i _ => n - (intOf i).toNat)
  case atStart => exact ⟨0, rfl, by omega, hown, hu1⟩
  case round =>
    obtain ⟨k, rfl, hk, ho, hu⟩ := hrel
    clear hown hu1 hsz
    by_cases hlt : k < n
    · obtain ⟨g, o, rfl, hcell⟩ : ∃ g o, a = some ⟨g, o, none⟩ ∧ w.cell? ⟨g, o + k, none⟩ = some (.int .i64 (zs.getD k 0)) := by
        rcases IntsAt.open HV.out with ⟨hz, _⟩ | ⟨_, g, o, cap, hv, _, _, hcell⟩
        · have := HN.out; rw [hz] at this; simp at this; omega
        · simp only [Value.slice.injEq] at hv
          exact ⟨g, o, hv.1, hcell k (by rw [← HN.out]; exact hlt)⟩
      have hcr := cell_upd hu hcell (fun f => f)
      clear hcell
      generalize hq : zs.getD k 0 = q at *
      have HQ := Lib.hid hq
      clear hq
      go_wp2_with (at_builtin; refine wpList_append_own _ rfl _ _ 22 rfl w.heap.size 5 i0 (.int .u8 0) 1 1 Try.underlying22 hi hz0 hz1 hz2 rfl (by decide) _ _ _ rfl (ho.alloc _) ⟨wr.heap.size, 0, none⟩ 1 1 [.int .u8 (bits .and .i64 q 255 % 256)] rfl rfl ?c1 ?c2 ?c3 ?c4 ?c5 ?_)
      case c1 => exact cell_one_new _ _ _
      case c2 => simp [Value.oneCell']
      case c3 => unfold maxLen; omega
      case c4 => omega
      case c5 => have := hu.size; simp; omega
      intro v' w2 hown2 hg2 _
      have hu2 := (hu.alloc (.cells #[.int .u8 (bits .and .i64 q 255 % 256)] 5)).of_grown hg2 (by intro j hj hj2; have := (ho.lt j hj).1; omega)
      rw [lay_snoc (by rw [← HN.out]; exact hlt) HQ.out (by rw [i64_and255]; omega)] at hown2
      clear ho hu hg2 hcr
      go_wp2_with fail
      go_roundw
      case rel => exact ⟨k + 1, by go_num, by omega, hown2, hu2⟩
      case measure => simp [intOf]; omega
    · have e : k = n := by omega
      have hl : layM (zs.take k) = layM zs := by rw [e, HN.out, List.take_length]
      have hlen2 : k = (layM zs).length := by rw [e, HN.out]; simp [layM]
      rw [hl] at ho
      have hres : IntsAt .u8 wr u3 (layM zs) := IntsAt.of_own (by rw [← hlen2]; exact ho)
      have HR := Lib.hid hres
      clear hres hl hlen2 ho e
      go_wp2_with fail
      go_ret
      exact ⟨_, rfl, HR.out, hu⟩

set_option maxHeartbeats 1000000 in
theorem rlay_any (v : Value) (zs : List Int) (w : World) (hv : IntsAt .i64 w v zs) (hw : ∀ x ∈ zs, -9223372036854775808 ≤ x ∧ x ≤ 9223372036854775807) (hlen : zs.length ≤ 100000) :
    Calls Try.prog 17 #[v] w (BytesPost (layM zs) w) := by
  obtain ⟨a, cap, rfl⟩ := hv.slice
  obtain ⟨i0, hi, hz0, hz1, hz2⟩ := info_parts Try.info5
  obtain ⟨n, hn⟩ : ∃ n, n = zs.length := ⟨_, rfl⟩
  rw [← hn] at hlen
  have HV := Lib.hid hv
  have HN := Lib.hid hn
  have HW := Lib.hid hw
  clear hv hw
  rw [← hn]
  clear hn
  go_enter Try.func17, Try.ntmps17
  go_wp2_with fail
  go_loopw [3, 4] (fun out i wr => ∃ (k : Nat), i = .int .i64 k ∧ k ≤ n ∧ wr.ownsRow w.heap.size 5 1 out k ((layM (zs.take k)).map (.int .u8)) ∧ Upd (fun _ => False) w wr) (fun _ i _ => n - (intOf i).toNat)
  case atStart => exact ⟨0, rfl, by omega, by simpa [layM] using World.ownsRow_nil _ _ _ _, Upd.refl _ _⟩
  case round =>
    obtain ⟨k, rfl, hk, ho, hu⟩ := hrel
    by_cases hlt : k < n
    · obtain ⟨g, o, rfl, hcell⟩ : ∃ g o, a = some ⟨g, o, none⟩ ∧ w.cell? ⟨g, o + k, none⟩ = some (.int .i64 (zs.getD k 0)) := by
        rcases IntsAt.open HV.out with ⟨hz, _⟩ | ⟨_, g, o, cap, hv, _, _, hcell⟩
        · have := HN.out; rw [hz] at this; simp at this; omega
        · simp only [Value.slice.injEq] at hv
          exact ⟨g, o, hv.1, hcell k (by rw [← HN.out]; exact hlt)⟩
      have hcr := cell_upd hu hcell (fun f => f)
      have hqb : -9223372036854775808 ≤ zs.getD k 0 ∧ zs.getD k 0 ≤ 9223372036854775807 := HW.out _ (by rw [HN.out] at hlt; simp [List.getD, hlt])
      clear hcell
      generalize hq : zs.getD k 0 = q at *
      have HQ := Lib.hid hq
      clear hq
      obtain ⟨hq1, hq2⟩ := hqb
      go_wp2_with (at_builtin; refine wpList_append_own _ rfl _ _ 22 rfl w.heap.size 5 i0 (.int .u8 0) 1 1 Try.underlying22 hi hz0 hz1 hz2 rfl (by decide) _ _ _ rfl (ho.alloc _) ⟨wr.heap.size, 0, none⟩ 1 1 [.int .u8 (wrap64 (q.tmod 256 + 256) % 256)] rfl rfl ?c1 ?c2 ?c3 ?c4 ?c5 ?_)
      case c1 => exact cell_one_new _ _ _
      case c2 => simp [Value.oneCell']
      case c3 => unfold maxLen; omega
      case c4 => omega
      case c5 => have := hu.size; simp; omega
      intro v' w2 hown2 hg2 _
      have hu2 := (hu.alloc (.cells #[.int .u8 (wrap64 (q.tmod 256 + 256) % 256)] 5)).of_grown hg2 (by intro j hj hj2; have := (ho.lt j hj).1; omega)
      rw [lay_snoc (by rw [← HN.out]; exact hlt) HQ.out (rlay_byte q)] at hown2
      clear ho hu hg2 hcr
      go_wp2_with fail
      go_roundw
      case rel => exact ⟨k + 1, by go_num, by omega, hown2, hu2⟩
      case measure => simp [intOf]; omega
    · have e : k = n := by omega
      have hl : layM (zs.take k) = layM zs := by rw [e, HN.out, List.take_length]
      have hlen2 : k = (layM zs).length := by rw [e, HN.out]; simp [layM]
      rw [hl] at ho
      have hres : IntsAt .u8 wr u3 (layM zs) := IntsAt.of_own (by rw [← hlen2]; exact ho)
      have HR := Lib.hid hres
      clear hres hl hlen2 ho e
      go_wp2_with fail
      go_ret
      exact ⟨_, rfl, HR.out, hu⟩
end Go.Proofs.Ytilojboanilpbaa
