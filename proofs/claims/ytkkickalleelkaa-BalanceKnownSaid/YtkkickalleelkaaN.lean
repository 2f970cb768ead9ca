/- The walks of Pick's third closure and of greatest over locs. -/
import Derived.Test.YtkkickalleelkaaM
namespace Go.Proofs.Ytkkickalleelkaa
open Go.RowKit Go.Acre
attribute [local go_sem] run_store_float run_store_complex
def condB (l : Lo) (heavy light : Int) (r room : Nat) : Bool := l.nodes.contains heavy && (!l.nodes.contains light && (gtF r 0 && ltF r room))
/-- what the closure has caught -/
structure Caught (w : World) (pb hb tb rb : Nat) (b : Option Addr) (n d : Nat) (qs : List CX) (heavy light : Int) (room : Nat) : Prop where
  loads : w.cell? ⟨pb, 0, none⟩ = some (.slice b n d)
  cx : CxAt w b n qs
  heavy : w.cell? ⟨hb, 0, none⟩ = some (.int .i64 heavy)
  light : w.cell? ⟨tb, 0, none⟩ = some (.int .i64 light)
  room : w.cell? ⟨rb, 0, none⟩ = some (.float .f64 room)
theorem Caught.upd0 {w w' : World} {pb hb tb rb : Nat} {b : Option Addr} {n d : Nat} {qs : List CX} {heavy light : Int} {room : Nat} (h : Caught w pb hb tb rb b n d qs heavy light room) (hu : Upd (fun _ => False) w w') : Caught w' pb hb tb rb b n d qs heavy light room :=
  ⟨cell_upd hu h.loads (fun f => f), h.cx.upd0 hu, cell_upd hu h.heavy (fun f => f), cell_upd hu h.light (fun f => f), cell_upd hu h.room (fun f => f)⟩
def Fl2Post (r : Nat) (b : Bool) (w : World) (e : Ending) (w' : World) : Prop := e = .returned (.tuple #[.float .f64 r, .bool b]) ∧ Upd (fun _ => False) w w'
set_option maxHeartbeats 2000000 in
set_option maxRecDepth 100000 in
theorem clos29 {w : World} {pb hb tb rb : Nat} {b : Option Addr} {n d : Nat} {qs : List CX} {heavy light : Int} {room : Nat} (hc : Caught w pb hb tb rb b n d qs heavy light room) {i : Nat} (hi : i < qs.length) (hn : n ≤ 12) {r : Nat} (hr : floatBits .add .f64 qs[i].1 qs[i].2 = some r) {l : Lo} {v : Value} (hl : LoAt w v l) :
    Calls Try.prog 29 #[.int .i64 (i : Int), agLo l v, .pointer (some ⟨pb, 0, none⟩), .pointer (some ⟨hb, 0, none⟩), .pointer (some ⟨tb, 0, none⟩), .pointer (some ⟨rb, 0, none⟩)] w (Fl2Post r (condB l heavy light r room) w) := by
  obtain ⟨na, nc, rfl⟩ := hl.ints.slice
  have hx := heap_alloc (w := w) (.cells #[.int .i64 l.group, .string ⟨#[]⟩, .string ⟨#[]⟩, .int .u64 0, .slice na l.nodes.length nc] 63)
  have hu0 : Upd (fun _ => False) w (w.alloc (.cells #[.int .i64 l.group, .string ⟨#[]⟩, .string ⟨#[]⟩, .int .u64 0, .slice na l.nodes.length nc] 63)) := (Upd.refl _ w).alloc _
  have HC := Lib.hid (hc.upd0 hu0)
  have HL := Lib.hid (hl.upd0 hu0)
  have HU := Lib.hid hu0
  have HX := Lib.hid hx
  have hnq : n = qs.length := hc.cx.1
  have hin : (i : Int) < (n : Int) := by omega
  have hi0 : (0 : Int) ≤ (i : Int) := by omega
  have HW : Hid (∀ w', Calls Try.prog 26 #[.complex .f64 qs[i].1 qs[i].2] w' (fun e w2 => e = .returned (.float .f64 r) ∧ w' = w2)) := fun w' => weight_any hr w'
  obtain ⟨g, o, hb2, d0⟩ := HC.out.cx.2 i hi
  subst hb2
  unfold cv at d0
  have hlb : l.nodes.length ≤ 100 := hl.len
  have hcb : condB l heavy light r room = (l.nodes.contains heavy && (!l.nodes.contains light && (gtF r 0 && ltF r room))) := rfl
  have HCB := Lib.hid hcb
  unfold agLo
  clear hc hr hl hx hu0 hnq hcb
  generalize condB l heavy light r room = cb at *
  generalize qs[i] = q at *
  obtain ⟨qx, qy⟩ := q
  simp only at d0 HW
  go_enter Try.func29, Try.ntmps29
  go_upto_region 1 with fail
  generalize w.alloc (.cells #[.int .i64 l.group, .string ⟨#[]⟩, .string ⟨#[]⟩, .int .u64 0, .slice na l.nodes.length nc] 63) = wb at *
  generalize w.heap.size = xb at *
  obtain ⟨b0, b1, b2, b3, b4⟩ := box5 HX.out
  have k0 := HC.out.loads
  have k1 := HC.out.heavy
  have k2 := HC.out.light
  have k3 := HC.out.room
  go_wp2_with fail
  refine (HW.out _).mono ?_
  rintro e w' ⟨rfl, rfl⟩
  have HK : Hid (∀ (x : Int) (m : Nat) (b : Bool), l.nodes.contains x = b → Calls Try.prog 30 #[.slice na l.nodes.length nc, .int .i64 x] (wb.drewN m) (fun e w' => e = .returned (.bool b) ∧ w' = wb.drewN m)) := fun x m b hb => by
    subst hb
    refine (contains_any (HL.out.upd0 ((Upd.refl _ wb).drewN m)).ints x hlb).mono ?_
    rintro e w' ⟨rfl, rfl⟩
    exact ⟨rfl, rfl⟩
  have hq := HCB.out
  cases hch : l.nodes.contains heavy with
  | false =>
    rw [hch, Bool.false_and] at hq
    have HQ := Lib.hid hq
    have hsh := fun m => HK.out heavy m false hch
    clear hq hch
    go_upto_region 2 with fail
    go_quiet (refine Calls.quiet_of_same (hsh _))
    go_wp2_with fail
    go_ret2
    rw [HQ.out]
    exact ⟨rfl, HU.out.drewN _⟩
  | true =>
    rw [hch, Bool.true_and] at hq
    have hsh := fun m => HK.out heavy m true hch
    cases hcl : l.nodes.contains light with
    | true =>
      rw [hcl, Bool.not_true, Bool.false_and] at hq
      have HQ := Lib.hid hq
      have hsl := fun m => HK.out light m true hcl
      clear hq hch hcl
      go_upto_region 2 with fail
      go_quiet (first | refine Calls.quiet_of_same (hsh _) | refine Calls.quiet_of_same (hsl _))
      go_wp2_with fail
      go_ret2
      rw [HQ.out]
      exact ⟨rfl, HU.out.drewN _⟩
    | false =>
      rw [hcl, Bool.not_false, Bool.true_and] at hq
      have hsl := fun m => HK.out light m false hcl
      cases hgt : gtF r 0 with
      | false =>
        rw [hgt, Bool.false_and] at hq
        have HQ := Lib.hid hq
        unfold gtF at hgt
        clear hq hch hcl
        go_upto_region 2 with fail
        go_quiet (first | refine Calls.quiet_of_same (hsh _) | refine Calls.quiet_of_same (hsl _))
        go_wp2_with fail
        go_ret2
        rw [HQ.out]
        exact ⟨rfl, HU.out.drewN _⟩
      | true =>
        rw [hgt, Bool.true_and] at hq
        have HQ := Lib.hid hq
        unfold gtF at hgt
        unfold ltF at HQ
        clear hq hch hcl
        go_upto_region 2 with fail
        go_quiet (first | refine Calls.quiet_of_same (hsh _) | refine Calls.quiet_of_same (hsl _))
        go_wp2_with fail
        go_ret2
        rw [HQ.out]
        exact ⟨rfl, HU.out.drewN _⟩
end Go.Proofs.Ytkkickalleelkaa
