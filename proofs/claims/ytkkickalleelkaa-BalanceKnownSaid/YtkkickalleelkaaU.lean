/- The walk of BalanceKnown. -/
import Derived.Test.YtkkickalleelkaaZ
import Derived.StillTailTactics
import Derived.IntWalk
namespace Go.Proofs.Ytkkickalleelkaa
open Go.RowKit Go.Acre
attribute [local go_sem] run_store_float run_store_complex
theorem upd_two (w : World) (b o o' : Nat) (v v' : Value) : Upd (fun i => i = b) w ((w.setCell ⟨b, o, none⟩ v).setCell ⟨b, o', none⟩ v') :=
  ((Upd.refl (fun i => i = b) w).setCell (p := ⟨b, o, none⟩) (fun _ => rfl) v).setCell (p := ⟨b, o', none⟩) (fun _ => rfl) v'
theorem upd_one (w : World) (b o : Nat) (v : Value) : Upd (fun i => i = b) w (w.setCell ⟨b, o, none⟩ v) :=
  (Upd.refl (fun i => i = b) w).setCell (p := ⟨b, o, none⟩) (fun _ => rfl) v
def KS (w : World) (a b pb : Nat) (w' : World) : Prop := w'.heap[b]? = some (.cells (outCells qsB) 28 (0, 0)) ∧ w'.heap[pb]? = some (.cells #[.bool true, .int .i64 3, .string ⟨#[]⟩, .int .i64 2, .int .i64 0] 43 (0, 0)) ∧ LocsAt w' (some ⟨a, 0, none⟩) 3 ls3 ∧ Upd (fun _ => False) w w'
theorem KS.upd0 {w u v : World} {a b pb : Nat} (h : KS w a b pb u) (hu : Upd (fun _ => False) u v) : KS w a b pb v :=
  ⟨hu.keep h.1 (fun f => f), hu.keep h.2.1 (fun f => f), h.2.2.1.upd0 hu, h.2.2.2.trans hu (fun _ _ f => f)⟩
def KT (w : World) (a b pb gv bb : Nat) (w' : World) : Prop := KS w a b pb w' ∧ w'.heap[gv]? = some (.cells (outCells (List.replicate 5 (0, 0))) 28 (0, 0)) ∧ w'.heap[bb]? = some (.cells (outCells bads) 28 (0, 0))
theorem KT.upd0 {w u v : World} {a b pb gv bb : Nat} (h : KT w a b pb gv bb u) (hu : Upd (fun _ => False) u v) : KT w a b pb gv bb v :=
  ⟨h.1.upd0 hu, hu.keep h.2.1 (fun f => f), hu.keep h.2.2 (fun f => f)⟩
set_option maxHeartbeats 4000000 in
set_option maxRecDepth 100000 in
theorem known_any (w : World) : Calls Try.prog 4 #[] w (PureUpd (.bool true) w) := by
  go_enter Try.func4, Try.ntmps4
  go_wp2_with fail
  refine (three_any w).mono ?_
  rintro e w1 ⟨a, b, rfl, hl, hb, hbw, hu⟩
  have HL := Lib.hid hl
  have HB := Lib.hid hb
  have HU := Lib.hid hu
  have HBW := Lib.hid hbw
  have c0 := cell_of_heap hb 0
  have c1 := cell_of_heap hb 1
  simp only [outCells, qs3, cv, List.map_cons, List.map_nil, List.getElem?_toArray, List.getElem?_cons_zero, List.getElem?_cons_succ] at c0 c1
  have f0 := frozen_of_heap hb 0 none
  have f1 := frozen_of_heap hb 1 none
  clear hl hb hu hbw
  go_upto_region 4 with fail
  have hsA := set_out (set_out HB.out 0 (f9, 0)) 1 (4611686018427387904, 0)
  have hub : Upd (fun i => i = b) w1 ((w1.setCell ⟨b, 0, none⟩ (cv (f9, 0))).setCell ⟨b, 1, none⟩ (cv (4611686018427387904, 0))) := upd_two _ _ _ _ _ _
  have HBA := Lib.hid (show _ = some (Obj.cells (outCells qsA) 28 (0, 0)) from hsA)
  have HLA := Lib.hid (HL.out.upd_b HB.out hub)
  have HUA := Lib.hid (HU.out.trans hub (fun i hi e => by have := HBW.out; omega))
  clear hsA hub HL HB HU c0 c1 f0 f1
  simp only [cv, f9] at HBA HLA HUA
  generalize (w1.setCell ⟨b, 0, none⟩ (.complex .f64 4621256167635550208 0)).setCell ⟨b, 1, none⟩ (.complex .f64 4611686018427387904 0) = wa at *
  go_wp2_with fail
  refine (pickA HLA.out (CxAt.of_out HBA.out)).mono ?_
  rintro e w2 ⟨rfl, hu2⟩
  simp only [agW, Option.isSome_some]
  have HB2 := Lib.hid (hu2.keep HBA.out (fun f => f))
  have HL2 := Lib.hid (HLA.out.upd0 hu2)
  have HU2 := Lib.hid (HUA.out.trans hu2 (fun _ _ f => f))
  clear hu2 HBA HLA HUA
  go_upto_region 5 with fail
  have hx := heap_alloc (w := w2) (.cells #[.bool true, .int .i64 3, .string ⟨#[]⟩, .int .i64 2, .int .i64 0] 43)
  have hu3 : Upd (fun _ => False) w2 (w2.alloc (.cells #[.bool true, .int .i64 3, .string ⟨#[]⟩, .int .i64 2, .int .i64 0] 43)) := (Upd.refl _ w2).alloc _
  have HX := Lib.hid hx
  have HB3 := Lib.hid (hu3.keep HB2.out (fun f => f))
  have HL3 := Lib.hid (HL2.out.upd0 hu3)
  have HU3 := Lib.hid (HU2.out.trans hu3 (fun _ _ f => f))
  have hpb : w2.heap.size ≠ b := by have := lt_of_heap HB2.out; omega
  clear hx hu3 HB2 HL2 HU2
  generalize w2.alloc (.cells #[.bool true, .int .i64 3, .string ⟨#[]⟩, .int .i64 2, .int .i64 0] 43) = w3 at *
  generalize w2.heap.size = pb at *
  have c2 := cell_of_heap HB3.out 2
  simp only [outCells, qsA, cv, List.map_cons, List.map_nil, List.getElem?_toArray, List.getElem?_cons_zero, List.getElem?_cons_succ] at c2
  have f2 := frozen_of_heap HB3.out 2 none
  go_upto_region 6 with fail
  have hsB := set_out HB3.out 2 (f9, 0)
  have hub : Upd (fun i => i = b) w3 (w3.setCell ⟨b, 2, none⟩ (cv (f9, 0))) := upd_one _ _ _ _
  have HB4 := Lib.hid (show _ = some (Obj.cells (outCells qsB) 28 (0, 0)) from hsB)
  have HL4 := Lib.hid (HL3.out.upd_b HB3.out hub)
  have HU4 := Lib.hid (HU3.out.trans hub (fun i hi e => by have := HBW.out; omega))
  have HX4 := Lib.hid (hub.keep HX.out hpb)
  clear hsB hub HB3 HL3 HU3 HX c2 f2 hpb
  simp only [cv, f9] at HB4 HL4 HU4 HX4
  generalize w3.setCell ⟨b, 2, none⟩ (.complex .f64 4621256167635550208 0) = w4 at *
  go_wp2_with fail
  refine (pickB HL4.out (CxAt.of_out HB4.out)).mono ?_
  rintro e w5 ⟨rfl, hu5⟩
  simp only [agW, Option.isSome_none]
  have HB5 := Lib.hid (hu5.keep HB4.out (fun f => f))
  have HX5 := Lib.hid (hu5.keep HX4.out (fun f => f))
  have HL5 := Lib.hid (HL4.out.upd0 hu5)
  have HU5 := Lib.hid (HU4.out.trans hu5 (fun _ _ f => f))
  clear hu5 HB4 HL4 HU4 HX4
  go_upto_region 7 with fail
  have hu6 : Upd (fun _ => False) w5 (w5.alloc (.cells #[.bool false, .int .i64 0, .string ⟨#[]⟩, .int .i64 0, .int .i64 0] 43)) := (Upd.refl _ w5).alloc _
  have HB6 := Lib.hid (hu6.keep HB5.out (fun f => f))
  have HX6 := Lib.hid (hu6.keep HX5.out (fun f => f))
  have HL6 := Lib.hid (HL5.out.upd0 hu6)
  have HU6 := Lib.hid (HU5.out.trans hu6 (fun _ _ f => f))
  clear hu6 HB5 HL5 HU5 HX5
  generalize w5.alloc (.cells #[.bool false, .int .i64 0, .string ⟨#[]⟩, .int .i64 0, .int .i64 0] 43) = w6 at *
  have hce := cells_alloc (w := w6) [ceR sA] (by simp)
  have hmd := middle_any hce (by intro f hf; simp only [List.mem_cons, List.not_mem_nil, or_false] at hf; rcases hf with rfl; exact ⟨by decide, by decide, by decide, by decide⟩) (by simp) ⟨#[]⟩ ⟨#[]⟩
  rw [mid_a] at hmd
  have HMD := Lib.hid hmd
  clear hce hmd
  go_wp2_with fail
  have HK6 := Lib.hid (show KS w a b pb w6 from ⟨HB6.out, HX6.out, HL6.out, HU6.out⟩)
  clear HB6 HX6 HL6 HU6
  refine Calls.mono HMD.out ?_
  rintro e w7 ⟨rfl, hu7⟩
  have HK7 := Lib.hid (HK6.out.upd0 (((Upd.refl _ w6).alloc _).trans hu7 (fun _ _ f => f)))
  clear hu7 HK6 HMD
  have hce := cells_alloc (w := w7) [ceR sA, ceR sB] (by simp)
  have hmd := middle_any hce (by intro f hf; simp only [List.mem_cons, List.not_mem_nil, or_false] at hf; rcases hf with rfl | rfl <;> exact ⟨by decide, by decide, by decide, by decide⟩) (by simp) sB ⟨#[]⟩
  rw [mid_ab] at hmd
  have HMD := Lib.hid hmd
  clear hce hmd
  go_wp2_with fail
  refine Calls.mono HMD.out ?_
  rintro e w8 ⟨rfl, hu8⟩
  have HK8 := Lib.hid (HK7.out.upd0 (((Upd.refl _ w7).alloc _).trans hu8 (fun _ _ f => f)))
  clear hu8 HK7 HMD
  go_wp2_with fail
  refine (nodes_bad (.inl (by omega))).mono ?_
  rintro e w9 ⟨rfl, hu9⟩
  have HK9 := Lib.hid (HK8.out.upd0 hu9)
  clear hu9 HK8
  go_wp2_with fail
  refine (nodes_bad (.inr (.inl (by omega)))).mono ?_
  rintro e w10 ⟨rfl, hu10⟩
  have HK10 := Lib.hid (HK9.out.upd0 hu10)
  clear hu10 HK9
  go_wp2_with fail
  refine (nodes_two HK10.out.2.2.1 (CxAt.of_out HK10.out.1)).mono ?_
  rintro e w11 ⟨rfl, hu11⟩
  have HK11 := Lib.hid (HK10.out.upd0 hu11)
  clear hu11 HK10
  go_wp2_with fail
  refine (nodes_bad (.inr (.inr (by omega)))).mono ?_
  rintro e w12 ⟨rfl, hu12⟩
  have HK12 := Lib.hid (HK11.out.upd0 hu12)
  clear hu12 HK11
  go_wp2_with fail
  refine (nodes_void _).mono ?_
  rintro e w13 ⟨gv, rfl, hg1, hg2, hg3, hu13⟩
  have HK13 := Lib.hid (HK12.out.upd0 hu13)
  have HV := Lib.hid hg3
  clear hu13 HK12 hg1 hg2 hg3
  go_upto_region 15 with fail
  have hu14 : Upd (fun _ => False) w13 (w13.alloc (.cells (outCells bads) 28)) := (Upd.refl _ w13).alloc _
  have HT := Lib.hid (show KT w a b pb gv w13.heap.size (w13.alloc (.cells (outCells bads) 28)) from ⟨HK13.out.upd0 hu14, hu14.keep HV.out (fun f => f), heap_alloc _⟩)
  clear HK13 HV hu14
  simp only [outCells, bads, cv, List.map_cons, List.map_nil] at HT
  generalize w13.alloc (.cells #[.complex .f64 4602678819172646912 0, .complex .f64 13830554455654793216 0, .complex .f64 4787326403894841344 0, .complex .f64 0 4602678819172646912, .complex .f64 0 13830554455654793216, .complex .f64 4607182418800017408 4787326403894841344] 28) = w14 at *
  generalize w13.heap.size = bb at *
  go_wp2_with fail
  go_loopw [24] (fun i wr => ∃ (k : Nat), i = .int .i64 k ∧ k ≤ 6 ∧ KT w a b pb gv bb wr) (fun i _ => 6 - (intOf i).toNat)
  case atStart => exact ⟨0, rfl, by omega, HT.out⟩
  case round =>
    obtain ⟨k, rfl, hk, ht⟩ := hrel
    have HTR := Lib.hid ht
    by_cases hlt : k < 6
    · have hlti : (k : Int) < 6 := by omega
      have hk0 : (0 : Int) ≤ (k : Int) := by omega
      clear ht HT
      go_upto_region 18 with fail
      have hkb : k < bads.length := hlt
      obtain ⟨hb1, hb2⟩ := bad_may bads[k] (List.getElem_mem hkb)
      have HTD := Lib.hid (HTR.out.upd0 (Upd.refl _ wr).drew)
      have hcx := CxAt.at HTD.out.2.2 hkb
      have HBC := Lib.hid (show ∀ w', KT w a b pb gv bb w' → w'.cell? ⟨bb, k, none⟩ = some (.complex .f64 bads[k].1 bads[k].2) from fun w' h => by
        obtain ⟨g, o, e, hc⟩ := (CxAt.at h.2.2 hkb).2 0 (by simp)
        simp only [Option.some.injEq, Addr.mk.injEq, and_true] at e
        obtain ⟨rfl, rfl⟩ := e
        exact hc)
      generalize bads[k] = q at *
      have HNQ : Hid (Calls Try.prog 16 #[.int .i64 3, .slice (some ⟨a, 5, none⟩) 1 2, .slice (some ⟨bb, k, none⟩) 1 (6 - k)] wr.drew (NodesPost 3 none wr.drew)) := Lib.hid (nodes_badq (HTD.out.1.2.2.1.at (i := 1) (by decide)) hcx hb1 hb2)
      have HQ2 := Lib.hid hb2
      clear hcx hb1 hb2 hkb
      have hne6 : ¬ 6 = k := by omega
      have hk1 : k + 1 - k = 1 := by omega
      have hk2 : (k : Int) ≤ (k : Int) + 1 := by omega
      have hlc : (k : Int) + 1 ≤ 6 := by omega
      have hk3 : (0 : Int) ≤ (k : Int) + 1 := by omega
      have hk4 : ((k : Int) + 1).toNat = k + 1 := by omega
      have hk5 : IntKind.i64.wrap ((k : Int) + 1) = (k : Int) + 1 := IntWalk.i64_in _ (by omega)
      go_region_with (go_at_call 16; (try rw [if_neg hne6]); refine HNQ.out.mono ?_; rintro e w15 ⟨rfl, hu15⟩)
      clear hk1 hk2 hlc hk3 hk4 hk5
      have HT15 := Lib.hid (HTD.out.upd0 hu15)
      have c0 := HBC.out _ HT15.out
      clear hu15 HNQ HTD HTR
      go_wp2_with fail
      refine (unlike_bad HQ2.out _).mono ?_
      rintro e w16 ⟨rfl, rfl⟩
      go_wp2_with fail
      refine (unlike_bad2 HQ2.out _).mono ?_
      rintro e w17 ⟨rfl, rfl⟩
      go_wp2_with fail
      exact ⟨⟨k + 1, by go_num, by omega, HT15.out⟩, by simp [intOf]; omega⟩
    · obtain rfl : k = 6 := by omega
      clear ht HT
      go_upto_region 21 with fail
      have hal : Upd (fun _ => False) wr (wr.alloc (.cells (outCells qTop) 28)) := (Upd.refl _ wr).alloc _
      have HTA := Lib.hid (HTR.out.upd0 hal)
      have HNT := Lib.hid (nodes_top (c := 2) (d := 1) (HTA.out.1.2.2.1.at (i := 1) (by decide)) (CxAt.of_out (heap_alloc (w := wr) (.cells (outCells qTop) 28))))
      clear hal hk hlt HTR
      go_wp2_with fail
      refine Calls.mono HNT.out ?_
      rintro e w18 ⟨gt, rfl, hg1, hg2, hg3, hu18⟩
      have HT18 := Lib.hid (HTA.out.upd0 hu18)
      have HG := Lib.hid hg3
      clear hg1 hg2 hg3 hu18 HNT HTA
      go_wp2_with fail
      refine (works_any _).mono ?_
      rintro e w19 ⟨rfl, hu19⟩
      have HT19 := Lib.hid (HT18.out.upd0 hu19)
      have HG19 := Lib.hid (hu19.keep HG.out (fun f => f))
      clear hu19 HG HT18
      obtain ⟨b0, b1, b2, b3, b4⟩ := box5 HT19.out.1.2.1
      have g0 := cell_of_heap HG19.out 0
      have v4 := cell_of_heap HT19.out.2.1 4
      simp only [outCells, accTop, cv, List.map_cons, List.map_nil, List.map_replicate, List.getElem?_toArray, List.getElem?_cons_zero, List.getElem?_cons_succ] at g0 v4
      have v5 : w19.cell? ⟨gv, 4, none⟩ = some (.complex .f64 0 0) := v4
      clear v4
      have oT : FloatKind.f64.format.order 4787326403894837248 4787326403894837248 = some .eq := by decide +kernel
      have o0 : FloatKind.f64.format.order 0 0 = some .eq := by decide +kernel
      have hld := load_none (-5) (by omega) w19
      rw [load_low] at hld
      have HLD := Lib.hid hld
      clear hld
      go_wp2_with fail
      refine Calls.mono HLD.out ?_
      rintro e w20 ⟨rfl, hu20⟩
      have HT20 := Lib.hid (HT19.out.upd0 hu20)
      have hld := load_none 4611686018427387904 (by omega) w20
      rw [load_high] at hld
      go_wp2_with fail
      refine Calls.mono hld ?_
      rintro e w21 ⟨rfl, hu21⟩
      have HT21 := Lib.hid (HT20.out.upd0 hu21)
      go_wp2_with fail
      go_ret
      exact ⟨rfl, HT21.out.1.2.2.2⟩
end Go.Proofs.Ytkkickalleelkaa
