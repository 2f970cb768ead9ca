/- The walk of ManifestLasts. -/
import Derived.Test.YtgkegfgdpekehaaMz
namespace Go.Proofs.Ytgkegfgdpekehaa
open Go.RowKit Go.Acre Go.Acre.Dk
def mN : ByteArray := ⟨#[109]⟩
def spN : ByteArray := mN ++ nwN
theorem spN_size : spN.size = 5 := by
  unfold spN
  rw [ByteArray.size_append]
  rfl
theorem mN_ok : nameOk mN = true := rfl
theorem spN_ok : nameOk spN = true := by
  unfold nameOk
  rw [spN_size]
  rfl
theorem mN_ne : mN ≠ spN := fun e => by
  have h := congrArg ByteArray.size e
  rw [spN_size] at h
  exact absurd h (by decide)
def fileOf (s : MSt) : Ent := ⟨mN, frameB (stateB s), (frameB (stateB s)).size⟩
/-- whatever the disk does, the levels lie as they lay -/
def Keeps (S : Nat → Prop) (w : World) (v : Value) (ls : List (List PF)) : Prop := ∀ w', Upd S w w' → LevsAt w' v ls
theorem Keeps.now {S : Nat → Prop} {w : World} {v : Value} {ls : List (List PF)} (h : Keeps S w v ls) : LevsAt w v ls := h w (Upd.refl _ _)
theorem Keeps.chain {S S' : Nat → Prop} {w w' : World} {v : Value} {ls : List (List PF)} (h : Keeps S w v ls) (c : Chain S w S' w') : Keeps S' w' v ls :=
  fun w'' hu => h w'' (c.upd.trans hu (fun i hi s => (c.new i s).elim id (fun e => by omega)))
theorem Keeps.of_out {S : Nat → Prop} {w : World} {B : Nat} {v : Value} {ls : List (List PF)} (h : OutAt w B v ls) (hS : ∀ k, S k → k < B) : Keeps S w v ls := fun w' hu => (h.upd hu hS).levs
def LB (S : Nat → Prop) (lb : Nat) : Nat → Prop := fun i => S i ∨ i = lb
theorem Chain.lb {S S' : Nat → Prop} {w w' : World} (c : Chain S w S' w') (lb : Nat) : Chain (LB S lb) w (LB S' lb) w' :=
  ⟨fun k hk => hk.elim (fun s => (c.new k s).elim (fun h => .inl (.inl h)) .inr) (fun e => .inl (.inr e)), c.upd.mono (fun _ _ s => .inl s)⟩
structure LS (w0 w : World) (S : Nat → Prop) (db R n k lb : Nat) (D : Files) (last : Option MSt) : Prop where
  has : Has w S db R n D
  low : ∀ j, S j → w0.heap.size ≤ j
  nlb : ¬ S lb
  lbn : w0.heap.size ≤ lb
  cur : get En D mN = last.map fileOf
  may : ∀ s, last = some s → mayS s = true
  tot : total D ≤ k * 200008
  upd : Upd (fun _ => False) w0 w
  box : ∃ (nx lg : Nat) (v : Value), w.heap[lb]? = some (.cells #[.int .u64 (nx : Nat), .int .u64 (lg : Nat), v] 45 (0, 0)) ∧ ∀ s, last = some s → ∃ va vc, nx = s.next ∧ lg = s.log ∧ v = .slice va s.levels.length vc ∧ Keeps (LB S lb) w v s.levels
theorem LS.next {w0 w w' : World} {S S' : Nat → Prop} {db R n n' k k' lb : Nat} {D D' : Files} {last : Option MSt} (h : LS w0 w S db R n k lb D last) (hc : Chain S w S' w') (hh : Has w' S' db R n' D') (hcur : get En D' mN = get En D mN) (ht : total D' ≤ k' * 200008) : LS w0 w' S' db R n' k' lb D' last := by
  obtain ⟨nx, lg, v, h1, h2⟩ := h.box
  refine ⟨hh, fun j hj => (hc.new j hj).elim (h.low j) (fun e => Nat.le_trans h.upd.size e), fun hl => (hc.new lb hl).elim h.nlb (fun e => by have := lt_of_heap h1; omega), h.lbn, hcur.trans h.cur, h.may, ht, h.upd.trans hc.upd (fun i hi s => by have := h.low i s; omega), nx, lg, v, hc.upd.keep h1 h.nlb, fun s hs => ?_⟩
  obtain ⟨va, vc, e1, e2, e3, hk⟩ := h2 s hs
  exact ⟨va, vc, e1, e2, e3, hk.chain (hc.lb lb)⟩
theorem LS.same {w0 w w' : World} {S : Nat → Prop} {db R n k lb : Nat} {D : Files} {last : Option MSt} (h : LS w0 w S db R n k lb D last) (hu : Upd (fun _ => False) w w') : LS w0 w' S db R n k lb D last :=
  h.next (Chain.of_upd0 hu) (h.has.upd hu (fun _ _ f => f)) rfl h.tot
/-- the state that has been saved is kept as the last one -/
theorem LS.saved {w0 w w' : World} {S S' : Nat → Prop} {db R n n' k k' lb : Nat} {D D' : Files} {last : Option MSt} {s : MSt} (h : LS w0 w S db R n k lb D last) (hc : Chain S w S' w') (hh : Has w' S' db R n' D') (hcur : get En D' mN = some (fileOf s)) (ht : total D' ≤ k' * 200008) (hm : mayS s = true)
    {va : Option Addr} {vc : Nat} (hk : Keeps (LB S' lb) w' (.slice va s.levels.length vc) s.levels) :
    LS w0 (((w'.setCell ⟨lb, 0, none⟩ (.int .u64 (s.next : Nat))).setCell ⟨lb, 1, none⟩ (.int .u64 (s.log : Nat))).setCell ⟨lb, 2, none⟩ (.slice va s.levels.length vc)) S' db R n' k' lb D' (some s) := by
  obtain ⟨nx, lg, v, h1, _⟩ := h.box
  have hlb : ¬ S' lb := fun hl => (hc.new lb hl).elim h.nlb (fun e => by have := lt_of_heap h1; omega)
  have hu : Upd (fun i => i = lb) w' (((w'.setCell ⟨lb, 0, none⟩ (.int .u64 (s.next : Nat))).setCell ⟨lb, 1, none⟩ (.int .u64 (s.log : Nat))).setCell ⟨lb, 2, none⟩ (.slice va s.levels.length vc)) := upd3
  refine ⟨hh.upd hu (fun j hj e => hlb (e ▸ hj)), fun j hj => (hc.new j hj).elim (h.low j) (fun e => Nat.le_trans h.upd.size e), hlb, h.lbn, hcur, fun s' e => by cases e; exact hm, ht, (h.upd.trans hc.upd (fun i hi s => by have := h.low i s; omega)).trans hu (fun i hi e => by have := h.lbn; omega), _, _, _, cells3 (hc.upd.keep h1 h.nlb), fun s' e => ?_⟩
  cases e
  exact ⟨va, vc, rfl, rfl, rfl, fun w'' hw => hk w'' ((hu.mono (fun _ _ e => .inr e)).trans hw (fun _ _ s => s))⟩
theorem has_low {w : World} {S : Nat → Prop} {db room n : Nat} {D : Files} (h : Has w S db room n D) : ∀ k, S k → k < w.heap.size := by
  obtain ⟨E, hE, _⟩ := h
  exact hE.below
theorem may_syn {room : Nat} {D : Files} (h : May room D) : ∀ f ∈ D, f.synced ≤ f.bytes.size := h.syn
theorem crash_cur {room : Nat} {D : Files} (h : May room D) {last : Option MSt} (hc : get En D mN = last.map fileOf) (zs : List Int) : get En (crashD D zs) mN = get En D mN := by
  rw [hc]
  cases last with
  | none => exact crash_none hc
  | some s => exact crash_whole h.srt hc
set_option maxHeartbeats 8000000 in
set_option maxRecDepth 100000 in
theorem lasts_any (R : Int) (a : Option Addr) (len cap : Nat) (w : World) (hR : (Lit.int .i64 R).wf = true) (h1 : Savs w a len ∧ len ≤ maxLen) :
    Calls Try.prog 18 #[.int .i64 R, .slice a len cap] w (Fresh true w) := by
  obtain ⟨hs, hlen⟩ := h1
  have hRb := int_of_wf hR
  have HS := Lib.hid hs
  unfold maxLen at hlen
  clear hs hR
  go_enter Try.func18, Try.ntmps18
  go_wp2_with fail
  refine (new_any R w hRb).mono ?_
  rintro e w2 ⟨db, S0, rfl, i1, i2, i3⟩
  go_upto_region 5 with fail
  have hua : Upd (fun _ => False) w2 (w2.alloc (.cells #[.int .u64 0, .int .u64 0, .slice none 0 0] 45)) := (Upd.refl _ w2).alloc _
  have hx := heap_alloc (w := w2) (.cells #[.int .u64 0, .int .u64 0, .slice none 0 0] 45)
  have hL0 : LS w (w2.alloc (.cells #[.int .u64 0, .int .u64 0, .slice none 0 0] 45)) S0 db R.toNat 0 0 w2.heap.size [] none :=
    ⟨i1.upd hua (fun _ _ f => f), i2, fun s => by have := has_low i1 _ s; omega, i3.size, rfl, fun s e => (by cases e), Nat.zero_le _, i3.trans hua (fun _ _ f => f), 0, 0, .slice none 0 0, hx, fun s e => by cases e⟩
  have HL0 := Lib.hid hL0
  clear i1 i2 i3 hua hx hL0
  generalize w2.alloc (.cells #[.int .u64 0, .int .u64 0, .slice none 0 0] 45) = w3 at *
  generalize w2.heap.size = lb at *
  generalize R.toNat = room at *
  go_wp2_with fail
  go_loopw [8, 7] (fun i s7 wr => ∃ (k : Nat) (S : Nat → Prop) (D : Files) (last : Option MSt), i = .int .i64 k ∧ s7 = .bool last.isSome ∧ k ≤ len ∧ k ≤ 12 ∧ LS w wr S db room (2 * k) k lb D last) (fun i _ _ => 12 - (intOf i).toNat)
  case atStart => exact ⟨0, S0, [], none, rfl, rfl, by omega, by omega, HL0.out⟩
  case round =>
    obtain ⟨k, S, D, last, rfl, rfl, hk, hk12, h⟩ := hrel
    by_cases hg1 : k < len
    · have hd1 : decide ((k : Int) < (len : Int)) = true := by simp; omega
      have hlt : (k : Int) < (len : Int) := by omega
      have hk0 : (0 : Int) ≤ (k : Int) := by omega
      by_cases hg2 : k < 12
      · have hd2 : decide ((k : Int) < 12) = true := by simp; omega
        obtain ⟨g, o, la, ll, lc, L, lg, ka, kl, kc, zs, rfl, c0, c1, c2, hlg, hll, hzL, hL256, hll9, hzK, hkl, hkl9, hzb⟩ := HS.out k hg1
        have hgl : g < w.heap.size := cell_lt c0
        have hmay := made_may L lg hlg
        have HMD : Hid (∀ w', Upd (fun _ => False) w w' → Calls Try.prog 39 #[.slice la ll lc, .int .u32 (lg : Nat)] w' (MadePost (madeS L lg) w')) := fun w' hu => made_any hll (IntsAt.upd0 hzL hu) hL256 hlg hll9
        generalize madeS L lg = x at *
        have HCS : Hid (∀ w' : World, Upd (fun _ => False) w w' → w'.cell? ⟨g, o + k * 3, none⟩ = some (.slice la ll lc) ∧ w'.cell? ⟨g, o + k * 3 + 1, none⟩ = some (.int .u32 (lg : Nat)) ∧ w'.cell? ⟨g, o + k * 3 + 2, none⟩ = some (.slice ka kl kc)) := fun w' hu => ⟨cell_upd hu c0 (fun f => f), cell_upd hu c1 (fun f => f), cell_upd hu c2 (fun f => f)⟩
        have HK := Lib.hid hzK
        have HKL := Lib.hid hkl
        have HZB := Lib.hid hzb
        have HMAY := Lib.hid hmay
        have H := Lib.hid h
        clear c0 c1 c2 hzL hL256 hzK hkl hzb hmay hll hlg
        have hu := h.upd
        clear h
        go_upto_region 9 with fail
        have hua : Upd (fun _ => False) wr (wr.alloc (.cells #[.int .u64 0, .int .u64 0, .slice none 0 0] 45)).drew := ((Upd.refl _ wr).alloc _).drew
        have hbx : (wr.alloc (.cells #[.int .u64 0, .int .u64 0, .slice none 0 0] 45)).drew.heap[wr.heap.size]? = some (.cells #[.int .u64 0, .int .u64 0, .slice none 0 0] 45 (0, 0)) := heap_alloc (w := wr) _
        have HUA := Lib.hid hua
        have HBX := Lib.hid hbx
        have hkp : ∀ w' : World, Upd (fun _ => False) wr w' → w'.cell? ⟨g, o + k * 3, none⟩ = some (.slice la ll lc) ∧ w'.cell? ⟨g, o + k * 3 + 1, none⟩ = some (.int .u32 (lg : Nat)) := fun w' h' => by
          obtain ⟨x1, x2, _⟩ := HCS.out w' (hu.trans h' (fun _ _ f => f))
          exact ⟨x1, x2⟩
        have HKP := Lib.hid hkp
        have HUW := Lib.hid hu
        have HC0 := Lib.hid (hkp wr.drew (Upd.refl _ wr).drew)
        obtain ⟨e0, e1⟩ := hkp wr (Upd.refl _ wr)
        clear hkp hua hbx hu
        go_cut [9] (fun s9 wx => ∃ (sb : Nat) (va : Option Addr) (vc : Nat), s9 = .pointer (some ⟨sb, 0, none⟩) ∧ Upd (fun _ => False) wr wx ∧ wr.heap.size ≤ sb ∧ wx.heap[sb]? = some (.cells #[.int .u64 (x.next : Nat), .int .u64 (x.log : Nat), .slice va x.levels.length vc] 45 (0, 0)) ∧ OutAt wx wr.heap.size (.slice va x.levels.length vc) x.levels)
        case first =>
          go_region_held3 (fun w' => w'.cell? ⟨g, o + k * 3, none⟩ = some (.slice la ll lc) ∧ w'.cell? ⟨g, o + k * 3 + 1, none⟩ = some (.int .u32 (lg : Nat))) (first | exact HC0.out | exact hcs5 | exact HKP.out _ HUA.out | exact HKP.out _ (hu5.alloc _) | exact HKP.out _ (hu5.trans (upd3 (b := wr.heap.size)) (fun i hi e => absurd (e ▸ hi) (Nat.lt_irrefl _)))) (first | (go_at_call 39; refine (HMD.out wr.drew (HUW.out.trans (Upd.refl _ wr).drew (fun _ _ f => f))).mono ?_; rintro e w5 ⟨va, vc, rfl, o5, u5⟩; have hu5 := (Upd.refl (fun _ => False) wr).drew.trans u5 (fun _ _ f => f); have hcs5 := HKP.out w5 hu5; have HO5 := Lib.hid o5; clear u5 o5) | (go_at_call 39; refine (HMD.out _ (HUW.out.trans HUA.out (fun _ _ f => f))).mono ?_; rintro e w5 ⟨va, vc, rfl, o5, u5⟩; have hu5 := HUA.out.trans u5 (fun _ _ f => f); have hcs5 := HKP.out w5 hu5; have hb5 := u5.keep HBX.out (fun f => f); have HO5 := Lib.hid o5; have HB5 := Lib.hid hb5; obtain ⟨y0, y1, y2⟩ := box_cells hb5; have y3 := frozen_of_heap hb5 0 none; have y4 := frozen_of_heap hb5 1 none; have y5 := frozen_of_heap hb5 2 none; clear u5 o5 hb5))
          all_goals go_wp2_with fail
          all_goals go_meet
          case rel => exact ⟨_, va, vc, rfl, hu5.alloc _, hu5.size, heap_alloc _, (HO5.out.upd ((Upd.refl (fun _ => False) _).alloc _) (fun _ f => f.elim)).base (show wr.heap.size ≤ wr.drew.heap.size from Nat.le_refl _)⟩
          case rel => exact ⟨_, va, vc, rfl, hu5.trans (upd3 (b := wr.heap.size)) (fun i hi e => absurd (e ▸ hi) (Nat.lt_irrefl _)), Nat.le_refl _, cells3 HB5.out, (HO5.out.upd (S := fun i => i = wr.heap.size) upd3 (fun k' e => by subst e; show wr.heap.size < (wr.alloc _).heap.size; rw [World.size_alloc]; omega)).base (show wr.heap.size ≤ (wr.alloc _).heap.size by rw [World.size_alloc]; omega)⟩
        case rest =>
          obtain ⟨sb, va, vc, rfl, hux, hsb, hbx, hout⟩ := hcut
          have hw := H.out.same hux
          have hlow : ∀ j, LB S lb j → j < wr.heap.size := fun j hj => by
            rcases hj with hj | rfl
            · exact has_low H.out.has j hj
            · obtain ⟨_, _, _, hb, _⟩ := H.out.box
              exact lt_of_heap hb
          have HKE := Lib.hid (Keeps.of_out hout hlow)
          have HOL := Lib.hid hout.levs
          have HSV : Hid (Calls Try.prog 59 #[.pointer (some ⟨db, 0, none⟩), .string ⟨#[109]⟩, .agg #[.int .u64 (x.next : Nat), .int .u64 (x.log : Nat), .slice va x.levels.length vc]] wc (SavePost S wc db room (2 * k + 2) (saveD room D mN spN (frameB (stateB x))))) :=
            save_any hw.has rfl hout.levs HMAY.out mN ⟨by decide, by decide⟩ (by unfold maxLen; omega)
          have HPL := Lib.hid (save_plain hw.has.may mN_ok spN_ok mN_ne (b := frameB (stateB x)))
          have hfs : (frameB (stateB x)).size ≤ 200008 := by rw [frameB_size]; have := stateB_le HMAY.out; omega
          have HFS := Lib.hid hfs
          generalize hr : saveD room D mN spN (frameB (stateB x)) = r at *
          have HW := Lib.hid hw
          have HBX2 := Lib.hid hbx
          obtain ⟨p0, p1, p2⟩ := box_cells hbx
          have hnS : ¬ S sb := fun s => by have := has_low H.out.has sb s; omega
          clear hux hw hbx hout hlow hfs e0 e1 hr
          go_wp2_with fail
          refine HSV.out.mono ?_
          rintro e w6 ⟨rfl, S6, hh6, hc6⟩
          have HH6 := Lib.hid hh6
          have HC6 := Lib.hid hc6
          have hb6 := hc6.upd.keep HBX2.out hnS
          obtain ⟨nx0, lg0, v0, hlb0, _⟩ := HW.out.box
          have hlb6 := hc6.upd.keep hlb0 HW.out.nlb
          have HB6 := Lib.hid hb6
          have HLB6 := Lib.hid hlb6
          clear hh6 hc6 hb6 hlb6 hlb0 p0 p1 p2 HSV
          obtain ⟨q0, q1, q2⟩ := box_cells HB6.out
          obtain ⟨l0, l1, l2⟩ := box_cells HLB6.out
          have z0 := frozen_of_heap HLB6.out 0 none
          have z1 := frozen_of_heap HLB6.out 1 none
          have z2 := frozen_of_heap HLB6.out 2 none
          go_upto_if 42 with fail
          go_cut [7] (fun s7 wx => ∃ (S7 : Nat → Prop) (D7 : Files) (last7 : Option MSt), s7 = .bool last7.isSome ∧ LS w wx S7 db room (2 * k + 2) (k + 1) lb D7 last7)
          case first =>
            rcases HPL.out.1 with ⟨h0, hcur⟩ | ⟨h7, hcur⟩
            · have hq : ((r.2 : Int) == 0) = true := by rw [h0]; rfl
              have hq2 : (r.2 : Int) = 0 := by omega
              have HCUR := Lib.hid hcur
              clear hcur h0
              go_wp2_with fail
              go_meet
              case rel => exact ⟨S6, r.1, some x, rfl, HW.out.saved HC6.out HH6.out HCUR.out (by have := HPL.out.2; have := HFS.out; have := HW.out.tot; omega) HMAY.out (HKE.out.chain (HC6.out.lb lb))⟩
            · have hq : ((r.2 : Int) == 0) = false := by rw [h7]; rfl
              have hq2 : (r.2 : Int) = 7 := by omega
              have hq3 : ((r.2 : Int) != 7) = false := by rw [h7]; rfl
              have hq4 : ¬ (r.2 : Int) = 0 := by omega
              have HCUR := Lib.hid hcur
              clear hcur h7
              go_wp2_with fail
              go_meet
              case rel => exact ⟨S6, r.1, last, rfl, HW.out.next HC6.out HH6.out HCUR.out (by have := HPL.out.2; have := HFS.out; have := HW.out.tot; omega)⟩
          case rest =>
            obtain ⟨S7, D7, last7, rfl, h7⟩ := hcut
            have hkk := (HCS.out wc h7.upd).2.2
            obtain ⟨m, hm⟩ : ∃ m : Nat, min (kl : Int) 9 = (m : Int) := ⟨min kl 9, by omega⟩
            have hml : m ≤ kl := by omega
            have h7d := h7.same (Upd.refl (fun _ => False) wc).drew
            have hzt := IntsAt_take (IntsAt.upd0 HK.out h7d.upd) m hml
            have hkb : kl ≤ kc ∧ kc ≤ 9223372036854775807 := by
              obtain ⟨_, _, _, hv, h3, h4, _⟩ := HK.out
              have hkl := HKL.out
              simp only [Value.slice.injEq] at hv
              obtain ⟨_, _, rfl⟩ := hv
              unfold maxLen at h4
              omega
            have hmc : (m : Int) ≤ (kc : Int) := by omega
            have HCR : Hid (Calls Try.prog 46 #[.pointer (some ⟨db, 0, none⟩), .slice ka m kc] wc.drew (CrashPost S7 wc.drew db room (2 * k + 2) (crashD D7 (zs.take m)))) :=
              crash_any h7d.has ka kc (zs.take m) m (by rw [List.length_take]; have := HKL.out; omega) hzt (fun z hz => HZB.out z (List.mem_of_mem_take hz)) (fun g' o' hne e hs => by
                have hz0 : 0 < zs.length := by
                  rcases zs with _ | ⟨z, zr⟩
                  · exact absurd (by simp) hne
                  · simp
                have hkl := HKL.out
                have hc9 := HK.out.cell (i := 0) hz0
                obtain ⟨g9, o9, e9, c9⟩ := hc9
                have h9 := cell_lt c9
                rw [e] at e9
                simp only [Option.some.injEq, Addr.mk.injEq, and_true] at e9
                have h10 := h7.low g' hs
                omega) (by omega) (by have := h7.tot; omega)
            have H7D := Lib.hid h7d
            have HC7 : Hid (wc.drew.cell? ⟨g, o + k * 3 + 2, none⟩ = some (.slice ka kl kc)) := hkk
            clear h7 h7d hzt hkb q0 q1 q2 l0 l1 l2 z0 z1 z2
            go_upto_region 16 with fail
            go_wp2_with fail
            go_region_held3 (fun w' => w'.cell? ⟨g, o + k * 3 + 2, none⟩ = some (.slice ka kl kc)) (first | exact HC7.out | exact hcs8) (first | (go_at_call 46; refine HCR.out.mono ?_; rintro e w8 ⟨rfl, hh8, u8⟩; have hcs8 := (HCS.out w8 (H7D.out.upd.trans u8 (fun i hi s => by have := H7D.out.low i s; omega))).2.2))
            have hm7 := H7D.out.has.may
            have h8 := H7D.out.next (S' := S7) ⟨fun _ s => .inl s, u8⟩ hh8 (crash_cur hm7 H7D.out.cur _) (Nat.le_trans (crash_total (may_syn hm7) _) H7D.out.tot)
            generalize crashD D7 (zs.take m) = D8 at *
            have hld := load_any h8.has mN (by decide) (fun f hf => by
              rw [h8.cur] at hf
              cases last7 with
              | none => cases hf
              | some s =>
                cases hf
                refine ⟨s, decodeS_back (h8.may s rfl), ?_⟩
                have h3 := stateB_le (h8.may s rfl)
                show (frameB (stateB s)).size ≤ _
                rw [frameB_size]
                omega)
            rw [h8.cur] at hld
            have H8 := Lib.hid h8
            clear h8 hh8 u8 hcs8 hm7 H7D HCR HC7
            cases last7 with
            | none =>
              have HLD : Hid (Calls Try.prog 60 #[.pointer (some ⟨db, 0, none⟩), .string ⟨#[109]⟩] w8 (LoadPost none w8)) := hld
              clear hld
              go_wp2_with fail
              refine HLD.out.mono ?_
              rintro e w9 ⟨rfl, hu9⟩
              have h9 := H8.out.same hu9
              have H9 := Lib.hid h9
              clear h9 hu9
              go_upto_region 18 with fail
              have hu10 : Upd (fun _ => False) w9 (w9.alloc (.cells #[.int .u64 0, .int .u64 0, .slice none 0 0] 45)) := (Upd.refl _ w9).alloc _
              have H10 := Lib.hid (H9.out.same hu10)
              clear hu10
              generalize w9.alloc (.cells #[.int .u64 0, .int .u64 0, .slice none 0 0] 45) = w10 at *
              go_wp2_with fail
              exact ⟨⟨k + 1, S7, D8, none, by go_num, rfl, by omega, by omega, H10.out⟩, by simp [intOf]; omega⟩
            | some s =>
              have HDB := Lib.hid (decodeS_back (H8.out.may s rfl))
              have HLD : Hid (Calls Try.prog 60 #[.pointer (some ⟨db, 0, none⟩), .string ⟨#[109]⟩] w8 (LoadPost (some (fileOf s)) w8)) := hld
              clear hld
              go_wp2_with fail
              refine HLD.out.mono ?_
              rintro e w9 ⟨x9, hx9, ya, yc, rfl, hlv, hu9⟩
              have ex : x9 = s := by
                have h1 : decodeS (frameB (stateB s)) = some x9 := hx9
                rw [HDB.out] at h1
                exact (Option.some.inj h1).symm
              subst ex
              have h9 := H8.out.same hu9
              have H9 := Lib.hid h9
              have HLV := Lib.hid hlv
              clear h9 hu9 hx9 hlv
              go_upto_region 18 with fail
              have hu10 : Upd (fun _ => False) w9 (w9.alloc (.cells #[.int .u64 (x9.next : Nat), .int .u64 (x9.log : Nat), .slice ya x9.levels.length yc] 45)) := (Upd.refl _ w9).alloc _
              have hy := heap_alloc (w := w9) (.cells #[.int .u64 (x9.next : Nat), .int .u64 (x9.log : Nat), .slice ya x9.levels.length yc] 45)
              have H10 := Lib.hid (H9.out.same hu10)
              have hlv10 := HLV.out.upd0 hu10
              clear hu10
              generalize w9.alloc (.cells #[.int .u64 (x9.next : Nat), .int .u64 (x9.log : Nat), .slice ya x9.levels.length yc] 45) = w10 at *
              generalize w9.heap.size = yb at *
              obtain ⟨nx1, lg1, v1, hb1, hl1⟩ := H10.out.box
              obtain ⟨va1, vc1, rfl, rfl, rfl, hkeep⟩ := hl1 x9 rfl
              have HSM : Hid (Calls Try.prog 40 #[.agg #[.int .u64 (x9.next : Nat), .int .u64 (x9.log : Nat), .slice ya x9.levels.length yc], .agg #[.int .u64 (x9.next : Nat), .int .u64 (x9.log : Nat), .slice va1 x9.levels.length vc1]] w10 (Fresh true w10)) := lsame_state rfl hlv10 hkeep.now
              obtain ⟨q0, q1, q2⟩ := box_cells hy
              obtain ⟨l0, l1, l2⟩ := box_cells hb1
              clear hb1 hl1 hkeep hlv10 hy
              go_wp2_with fail
              refine HSM.out.mono ?_
              rintro e w11 ⟨rfl, hu11⟩
              have H11 := Lib.hid (H10.out.same hu11)
              clear hu11
              go_wp2_with fail
              exact ⟨⟨k + 1, S7, D8, some x9, by go_num, rfl, by omega, by omega, H11.out⟩, by simp [intOf]; omega⟩
      · have hd2 : decide ((k : Int) < 12) = false := by simp; omega
        have hu := h.upd
        clear h
        go_wp2_with (go_at_call 38; refine (mworks_any _).mono ?_; rintro e w9 ⟨rfl, hu9⟩)
        go_ret
        exact ⟨rfl, hu.trans hu9 (fun _ _ f => f)⟩
    · have hd1 : decide ((k : Int) < (len : Int)) = false := by simp; omega
      have hlt : ¬ (k : Int) < (len : Int) := by omega
      have hu := h.upd
      clear h
      go_wp2_with (go_at_call 38; refine (mworks_any _).mono ?_; rintro e w9 ⟨rfl, hu9⟩)
      go_ret
      exact ⟨rfl, hu.trans hu9 (fun _ _ f => f)⟩
end Go.Proofs.Ytgkegfgdpekehaa
