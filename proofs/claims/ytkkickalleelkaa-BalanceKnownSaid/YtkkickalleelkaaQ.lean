/- The walk of Pick. -/
import Derived.Test.YtkkickalleelkaaO
namespace Go.Proofs.Ytkkickalleelkaa
open Go.RowKit Go.Acre
attribute [local go_sem] run_store_float run_store_complex
/-- what Pick hands back -/
def agW (r : Option (Int × Int × Int)) : Value := match r with
  | none => .agg #[.bool false, .int .i64 0, .string ⟨#[]⟩, .int .i64 0, .int .i64 0]
  | some (g, i, o) => .agg #[.bool true, .int .i64 g, .string ⟨#[]⟩, .int .i64 i, .int .i64 o]
def PickPost (r : Option (Int × Int × Int)) (w : World) (e : Ending) (w' : World) : Prop := e = .returned (.tuple #[agW r, .bool r.isSome, .int .i64 0]) ∧ Upd (fun _ => False) w w'
theorem CxAt.of_out {w : World} {g : Nat} {acc : List CX} (h : w.heap[g]? = some (.cells (outCells acc) 28 (0, 0))) : CxAt w (some ⟨g, 0, none⟩) acc.length acc :=
  ⟨rfl, fun i hi => ⟨g, 0, rfl, by
    rw [Nat.zero_add, cell_of_heap h i]
    unfold outCells
    simp [hi]⟩⟩
theorem cells5 {w : World} {b t : Nat} {a0 a1 a2 a3 a4 v0 v1 v2 v3 v4 : Value} (h : w.heap[b]? = some (.cells #[a0, a1, a2, a3, a4] t (0, 0))) :
    (((((w.setCell ⟨b, 0, none⟩ v0).setCell ⟨b, 1, none⟩ v1).setCell ⟨b, 2, none⟩ v2).setCell ⟨b, 3, none⟩ v3).setCell ⟨b, 4, none⟩ v4).heap[b]? = some (.cells #[v0, v1, v2, v3, v4] t (0, 0)) := by
  have := heap_setCell (o := 4) (heap_setCell (o := 3) (heap_setCell (o := 2) (heap_setCell (o := 1) (heap_setCell (o := 0) h v0) v1) v2) v3) v4
  simpa using this
theorem heap_drew (w : World) : w.drew.heap = w.heap := rfl
theorem cells5d {w : World} {b t : Nat} {a0 a1 a2 a3 a4 v0 v1 v2 v3 v4 : Value} (h : w.heap[b]? = some (.cells #[a0, a1, a2, a3, a4] t (0, 0))) :
    (((((w.setCell ⟨b, 0, none⟩ v0).setCell ⟨b, 1, none⟩ v1).setCell ⟨b, 2, none⟩ v2).setCell ⟨b, 3, none⟩ v3).setCell ⟨b, 4, none⟩ v4).drew.heap[b]? = some (.cells #[v0, v1, v2, v3, v4] t (0, 0)) := by
  rw [heap_drew]
  exact cells5 h
theorem upd5 {w : World} {b : Nat} {v0 v1 v2 v3 v4 : Value} : Upd (fun i => i = b) w (((((w.setCell ⟨b, 0, none⟩ v0).setCell ⟨b, 1, none⟩ v1).setCell ⟨b, 2, none⟩ v2).setCell ⟨b, 3, none⟩ v3).setCell ⟨b, 4, none⟩ v4) :=
  Upd.setCell (Upd.setCell (Upd.setCell (Upd.setCell (Upd.setCell (Upd.refl (fun i => i = b) w) (p := ⟨b, 0, none⟩) (fun _ => rfl) _) (p := ⟨b, 1, none⟩) (fun _ => rfl) _) (p := ⟨b, 2, none⟩) (fun _ => rfl) _) (p := ⟨b, 3, none⟩) (fun _ => rfl) _) (p := ⟨b, 4, none⟩) (fun _ => rfl) _
theorem alloc_set (w : World) (u v : Value) : (((w.alloc (.cells #[u] 60)).drew).setCell ⟨w.heap.size, 0, none⟩ v).heap[w.heap.size]? = some (.cells #[v] 60 (0, 0)) := by
  have h : ((w.alloc (.cells #[u] 60)).drew).heap[w.heap.size]? = some (.cells #[u] 60 (0, 0)) := heap_alloc (w := w) _
  have := heap_setCell (o := 0) h v
  simpa using this
set_option maxHeartbeats 4000000 in
set_option maxRecDepth 100000 in
theorem pick_any {w : World} {a b : Option Addr} {n c d : Nat} {ls : List Lo} {qs : List CX} (hl : LocsAt w a n ls) (hq : CxAt w b n qs) (hn : n ≤ 12) (hm : ∀ q ∈ qs, MayIs q.1 q.2 (mayC q)) {N : Nat} (hN : 1 ≤ N ∧ N ≤ 5) {acc : List CX} (hR : nodesF N (List.replicate N (0, 0)) (ls.zip qs) = some (some acc))
    {wa : List Nat} (hwa : wa.length = N) (hwf : ∀ i (h1 : i < acc.length) (h2 : i < wa.length), floatBits .add .f64 acc[i].1 acc[i].2 = some wa[i])
    {wq : List Nat} (hwq : wq.length = n) (hwqf : ∀ i (h1 : i < qs.length) (h2 : i < wq.length), floatBits .add .f64 qs[i].1 qs[i].2 = some wq[i])
    {heavy light : Nat} (hh : (gfold (wa.map fun x => (x, true)) N).1 = (heavy : Int)) (hlt : (gfold (wa.map fun x => (negF x, true)) N).1 = (light : Int)) (hhN : heavy < N) (hlN : light < N)
    {room : Nat} (hroom : floatBits .sub .f64 (wa.getD heavy 0) (wa.getD light 0) = some room)
    {best : Int} (hb : (gfold ((ls.zip wq).map fun x => (x.2, condB x.1 heavy light x.2 room)) n).1 = best) (hbn : best < n) {res : Option (Int × Int × Int)} (hres : (if best < 0 then none else some ((ls.getD best.toNat ⟨0, []⟩).group, (light : Int), (heavy : Int))) = res) :
    Calls Try.prog 15 #[.int .i64 (N : Int), .slice a n c, .slice b n d] w (PickPost res w) := by
  have hx := heap_alloc (w := w) (.cells #[.slice b n d] 39)
  have hu0 : Upd (fun _ => False) w (w.alloc (.cells #[.slice b n d] 39)) := (Upd.refl _ w).alloc _
  have hx2 := heap_alloc (w := w.alloc (.cells #[.slice b n d] 39)) (.cells #[.bool false, .int .i64 0, .string ⟨#[]⟩, .int .i64 0, .int .i64 0] 43)
  have hu2 : Upd (fun _ => False) (w.alloc (.cells #[.slice b n d] 39)) ((w.alloc (.cells #[.slice b n d] 39)).alloc (.cells #[.bool false, .int .i64 0, .string ⟨#[]⟩, .int .i64 0, .int .i64 0] 43)) := (Upd.refl _ _).alloc _
  have hx1 := hu2.keep hx (fun f => f)
  simp only [World.size_alloc] at hx2
  have hub := hu0.trans hu2 (fun _ _ f => f)
  have HL := Lib.hid (hl.upd0 hub)
  have HQ := Lib.hid (hq.upd0 hub)
  have HUB := Lib.hid hub
  have HX1 := Lib.hid hx1
  have HX2 := Lib.hid hx2
  have HND : Hid (∀ w', Upd (fun _ => False) w w' → Calls Try.prog 16 #[.int .i64 (N : Int), .slice a n c, .slice b n d] w' (NodesPost N (some acc) w')) := fun w' hu => nodes_any (hl.upd0 hu) (hq.upd0 hu) hn hm hN hR
  have HWA := Lib.hid hwa
  have HWF := Lib.hid hwf
  have HWQ := Lib.hid hwq
  have HWQF := Lib.hid hwqf
  have HHV := Lib.hid hh
  have HLT := Lib.hid hlt
  have HRM := Lib.hid hroom
  have HB := Lib.hid hb
  have HRES := Lib.hid hres
  have HNQ := Lib.hid hq.1
  have HNL := Lib.hid hl.1
  clear hl hq hm hR hwa hwf hwq hwqf hh hlt hroom hb hres hx hx1 hx2 hu0 hu2 hub
  go_enter Try.func15, Try.ntmps15
  go_upto_region 1 with fail
  generalize (w.alloc (.cells #[.slice b n d] 39)).alloc (.cells #[.bool false, .int .i64 0, .string ⟨#[]⟩, .int .i64 0, .int .i64 0] 43) = wb at *
  generalize hxb : w.heap.size = xb at *
  have HXB := Lib.hid hxb
  clear hxb
  have k0 := cell_of_heap HX1.out 0
  simp only [List.getElem?_toArray, List.getElem?_cons_zero] at k0
  go_wp2_with fail
  refine (HND.out _ HUB.out).mono ?_
  rintro e w1 ⟨g, rfl, hg1, hal, hg2, hu1⟩
  have HG := Lib.hid hg2
  have HAL := Lib.hid hal
  have HU1 := Lib.hid hu1
  clear hg2 hal hu1 k0
  have HC1 : Hid (∀ w', Upd (fun _ => False) w1 w' → Calls Try.prog 24 #[.slice (some ⟨g, 0, none⟩) N N, .func (.func 25) #[] #[]] w' (fun e w2 => e = .returned (.int .i64 (heavy : Int)) ∧ w' = w2)) := fun w' hu => by
    have h := greatest_c (w := w') (c := N) (ws := wa.map fun x => (x, true)) (fn := 25) ((CxAt.of_out HG.out).upd0 hu) (by rw [HAL.out]; omega) (by rw [List.length_map, HWA.out, HAL.out]) (.inl rfl) (fun i h1 h2 => by
      rw [List.getElem_map]
      exact clos25 (HWF.out i h1 (by simpa using h2)) _ _)
    rw [HAL.out, HHV.out] at h
    exact h
  have HC2 : Hid (∀ w', Upd (fun _ => False) w1 w' → Calls Try.prog 24 #[.slice (some ⟨g, 0, none⟩) N N, .func (.func 27) #[] #[]] w' (fun e w2 => e = .returned (.int .i64 (light : Int)) ∧ w' = w2)) := fun w' hu => by
    have h := greatest_c (w := w') (c := N) (ws := wa.map fun x => (negF x, true)) (fn := 27) ((CxAt.of_out HG.out).upd0 hu) (by rw [HAL.out]; omega) (by rw [List.length_map, HWA.out, HAL.out]) (.inr rfl) (fun i h1 h2 => by
      rw [List.getElem_map]
      exact clos27 (HWF.out i h1 (by simpa using h2)) _ _)
    rw [HAL.out, HLT.out] at h
    exact h
  go_wp2_with fail
  refine (HC1.out _ (Upd.refl _ _)).mono ?_
  rintro e w' ⟨rfl, rfl⟩
  go_upto_region 5 with fail
  have hxh := heap_alloc (w := w1) (.cells #[.int .i64 (heavy : Int)] 3)
  have hu2 : Upd (fun _ => False) w1 (w1.alloc (.cells #[.int .i64 (heavy : Int)] 3)) := (Upd.refl _ w1).alloc _
  have HXH := Lib.hid hxh
  have HU2 := Lib.hid hu2
  clear hxh hu2
  generalize w1.alloc (.cells #[.int .i64 (heavy : Int)] 3) = w2 at *
  generalize w1.heap.size = hb at *
  go_wp2_with fail
  refine (HC2.out _ HU2.out).mono ?_
  rintro e w' ⟨rfl, rfl⟩
  go_upto_region 6 with fail
  have hxl := heap_alloc (w := w2) (.cells #[.int .i64 (light : Int)] 3)
  have hu3 : Upd (fun _ => False) w2 (w2.alloc (.cells #[.int .i64 (light : Int)] 3)) := (Upd.refl _ w2).alloc _
  have HXL := Lib.hid hxl
  have HXH3 := Lib.hid (hu3.keep HXH.out (fun f => f))
  have HU3 := Lib.hid (HU2.out.trans hu3 (fun _ _ f => f))
  clear hxl hu3
  generalize w2.alloc (.cells #[.int .i64 (light : Int)] 3) = w3 at *
  generalize w2.heap.size = tb at *
  have HG3 := Lib.hid (HU3.out.keep HG.out (fun f => f))
  have hha : heavy < acc.length := by rw [HAL.out]; exact hhN
  have hla : light < acc.length := by rw [HAL.out]; exact hlN
  have hhw : heavy < wa.length := by rw [HWA.out]; exact hhN
  have hlw : light < wa.length := by rw [HWA.out]; exact hlN
  have w1' := HWF.out heavy hha hhw
  have w2' := HWF.out light hla hlw
  have hrm := HRM.out
  rw [show wa.getD heavy 0 = wa[heavy] from by simp [hhw], show wa.getD light 0 = wa[light] from by simp [hlw]] at hrm
  have c1 : w3.cell? ⟨g, heavy, none⟩ = some (cv acc[heavy]) := by
    rw [cell_of_heap HG3.out heavy]
    unfold outCells
    simp [hha]
  have c2 : w3.cell? ⟨g, light, none⟩ = some (cv acc[light]) := by
    rw [cell_of_heap HG3.out light]
    unfold outCells
    simp [hla]
  generalize wa[heavy] = rh at *
  generalize wa[light] = rl at *
  generalize acc[heavy] = ph at *
  generalize acc[light] = pl at *
  obtain ⟨hx, hy⟩ := ph
  obtain ⟨lx, ly⟩ := pl
  unfold cv at c1 c2
  simp only at c1 c2 w1' w2'
  have HWH : Hid (∀ w', Calls Try.prog 26 #[.complex .f64 hx hy] w' (fun e w2 => e = .returned (.float .f64 rh) ∧ w' = w2)) := fun w' => weight_any w1' w'
  have HWL : Hid (∀ w', Calls Try.prog 26 #[.complex .f64 lx ly] w' (fun e w2 => e = .returned (.float .f64 rl) ∧ w' = w2)) := fun w' => weight_any w2' w'
  have hsub : ∀ w' : World, (binOp .sub 60 (.float .f64 rh) (.float .f64 rl)).run Try.prog w' = .ok (.float .f64 room) w' := fun w' => run_float_arith w' .sub 60 .f64 rh rl room hrm
  have q1 := cell_of_heap HXH3.out 0
  have q2 := cell_of_heap HXL.out 0
  simp only [List.getElem?_toArray, List.getElem?_cons_zero] at q1 q2
  have hhi : (heavy : Int) < (N : Int) := by omega
  have hh0 : (0 : Int) ≤ (heavy : Int) := by omega
  have hli : (light : Int) < (N : Int) := by omega
  have hl0 : (0 : Int) ≤ (light : Int) := by omega
  have hcs : w3.drew.cell? ⟨hb, 0, none⟩ = some (.int .i64 (heavy : Int)) ∧ w3.drew.cell? ⟨tb, 0, none⟩ = some (.int .i64 (light : Int)) ∧ w3.drew.cell? ⟨g, heavy, none⟩ = some (.complex .f64 hx hy) ∧ w3.drew.cell? ⟨g, light, none⟩ = some (.complex .f64 lx ly) := ⟨q1, q2, c1, c2⟩
  have hka : ∀ (o : Obj), (w3.alloc o).drew.cell? ⟨hb, 0, none⟩ = some (.int .i64 (heavy : Int)) ∧ (w3.alloc o).drew.cell? ⟨tb, 0, none⟩ = some (.int .i64 (light : Int)) ∧ (w3.alloc o).drew.cell? ⟨g, heavy, none⟩ = some (.complex .f64 hx hy) ∧ (w3.alloc o).drew.cell? ⟨g, light, none⟩ = some (.complex .f64 lx ly) := fun o =>
    have hu : Upd (fun _ => False) w3 (w3.alloc o).drew := ((Upd.refl _ w3).alloc o).drew
    ⟨cell_upd hu q1 (fun f => f), cell_upd hu q2 (fun f => f), cell_upd hu c1 (fun f => f), cell_upd hu c2 (fun f => f)⟩
  have HKA := Lib.hid hka
  clear hka w1' w2' hrm hha hla hhw hlw
  go_upto_region 6 with fail
  go_cut [13] (fun s13 wx => ∃ rb, s13 = .pointer (some ⟨rb, 0, none⟩) ∧ Upd (fun _ => False) w3 wx ∧ wx.heap[rb]? = some (.cells #[.float .f64 room] 60 (0, 0)))
  case first =>
    go_region_held3 (fun w' => w'.cell? ⟨hb, 0, none⟩ = some (.int .i64 (heavy : Int)) ∧ w'.cell? ⟨tb, 0, none⟩ = some (.int .i64 (light : Int)) ∧ w'.cell? ⟨g, heavy, none⟩ = some (.complex .f64 hx hy) ∧ w'.cell? ⟨g, light, none⟩ = some (.complex .f64 lx ly)) (first | exact hcs | exact HKA.out _) (first | (go_at_call 26; refine (HWH.out _).mono ?_; rintro e w' ⟨rfl, rfl⟩) | (go_at_call 26; refine (HWL.out _).mono ?_; rintro e w' ⟨rfl, rfl⟩))
    all_goals go_wp2_with fail
    all_goals go_meet
    all_goals first | exact ⟨_, rfl, (Upd.refl (fun _ => False) w3).drew.alloc _, heap_alloc (w := w3.drew) _⟩ | exact ⟨_, rfl, ((Upd.refl (fun _ => False) w3).alloc _).drew, heap_alloc (w := w3) _⟩ | exact ⟨_, rfl, ((Upd.refl (fun _ => False) w3).alloc _).drew.setCell (p := ⟨w3.heap.size, 0, none⟩) (fun h => absurd h (Nat.lt_irrefl _)) _, alloc_set w3 _ _⟩ | trace_state
  case rest =>
    obtain ⟨rb, e13, hu4, hxr⟩ := hcut
    subst e13
    have HU4 := Lib.hid ((HU1.out.trans HU3.out (fun _ _ f => f)).trans hu4 (fun _ _ f => f))
    have HXR := Lib.hid hxr
    have HXH4 := Lib.hid (hu4.keep HXH3.out (fun f => f))
    have HXL4 := Lib.hid (hu4.keep HXL.out (fun f => f))
    clear hu4 hxr hcs HKA q1 q2 c1 c2 HXH3 HXL HXH HG3
    have HL4 := Lib.hid (HL.out.upd0 HU4.out)
    have hca : Caught wc xb hb tb rb b n d qs (heavy : Int) (light : Int) room := by
      have k0 := cell_of_heap (HU4.out.keep HX1.out (fun f => f)) 0
      have k1 := cell_of_heap HXH4.out 0
      have k2 := cell_of_heap HXL4.out 0
      have k3 := cell_of_heap HXR.out 0
      simp only [List.getElem?_toArray, List.getElem?_cons_zero] at k0 k1 k2 k3
      exact ⟨k0, HQ.out.upd0 HU4.out, k1, k2, k3⟩
    have HCA := Lib.hid hca
    clear hca
    have HGL : Hid (Calls Try.prog 28 #[.slice a n c, .func (.func 29) #[] #[.pointer (some ⟨xb, 0, none⟩), .pointer (some ⟨hb, 0, none⟩), .pointer (some ⟨tb, 0, none⟩), .pointer (some ⟨rb, 0, none⟩)]] wc (fun e w' => e = .returned (.int .i64 best) ∧ Upd (fun _ => False) wc w')) := by
      have h := greatest_l (c := c) (ws := (ls.zip wq).map fun x => (x.2, condB x.1 heavy light x.2 room)) (p0 := .pointer (some ⟨xb, 0, none⟩)) (p1 := .pointer (some ⟨hb, 0, none⟩)) (p2 := .pointer (some ⟨tb, 0, none⟩)) (p3 := .pointer (some ⟨rb, 0, none⟩)) HL4.out hn (by rw [List.length_map, List.length_zip, ← HNL.out, HWQ.out, Nat.min_self]) (fun w' hu i h1 h2 v hv => by
        have h3 : i < qs.length := by rw [← HNQ.out, HNL.out]; exact h1
        have h4 : i < wq.length := by rw [HWQ.out, HNL.out]; exact h1
        rw [List.getElem_map, List.getElem_zip]
        exact clos29 (HCA.out.upd0 hu) h3 hn (HWQF.out i h3 h4) (hv.upd0 hu))
      rw [HB.out] at h
      exact h
    go_upto_region 7 with fail
    go_wp2_with fail
    refine HGL.out.mono ?_
    rintro e w5 ⟨rfl, hu5⟩
    have HU5 := Lib.hid (HU4.out.trans hu5 (fun _ _ f => f))
    have HX5 := Lib.hid ((HU4.out.trans hu5 (fun _ _ f => f)).keep HX2.out (fun f => f))
    have HXH5 := Lib.hid (hu5.keep HXH4.out (fun f => f))
    have HXL5 := Lib.hid (hu5.keep HXL4.out (fun f => f))
    have HL5 := Lib.hid (HL4.out.upd0 hu5)
    clear hu5 HGL HCA HXH4 HXL4 HXR
    obtain ⟨y0, y1, y2, y3, y4⟩ := box5 HX5.out
    have f0 := frozen_of_heap HX5.out 0 none
    have f1 := frozen_of_heap HX5.out 1 none
    have f2 := frozen_of_heap HX5.out 2 none
    have f3 := frozen_of_heap HX5.out 3 none
    have f4 := frozen_of_heap HX5.out 4 none
    have hres := HRES.out
    by_cases hneg : best < 0
    · rw [if_pos hneg] at hres
      have HR2 := Lib.hid hres
      clear hres
      go_wp2_with fail
      try simp only [Exit.inBlock, Exit.then]
      refine bodyPost_ret (results_cuu rfl _ _ (xb + 1) 43 _ (0, 0) _ rfl (cells5 HX5.out) Try.underlying43 rfl (by kernel_rfl)) rfl ?_
      rw [← HR2.out]
      exact ⟨rfl, (HUB.out.trans HU5.out (fun _ _ f => f)).trans (upd5 (b := xb + 1)) (fun i hi e => by have := HXB.out; omega)⟩
    · rw [if_neg hneg] at hres
      obtain ⟨bn, rfl⟩ : ∃ bn : Nat, best = (bn : Int) := ⟨best.toNat, by omega⟩
      have hbl : bn < ls.length := by rw [← HNL.out]; omega
      obtain ⟨g7, o7, v7, rfl, z0, _, _, _, _, _⟩ := HL5.out.2 bn hbl
      rw [Int.toNat_natCast, show ls.getD bn ⟨0, []⟩ = ls[bn] from by simp [hbl]] at hres
      have hb0 : (0 : Int) ≤ (bn : Int) := by omega
      have q1 := cell_of_heap HXH5.out 0
      have q2 := cell_of_heap HXL5.out 0
      simp only [List.getElem?_toArray, List.getElem?_cons_zero] at q1 q2
      generalize ls[bn].group = gr at *
      have HR2 := Lib.hid hres
      clear hres
      go_upto_region 10 with fail
      go_region_with (fail)
      all_goals go_wp2_with fail
      all_goals try simp only [Exit.inBlock, Exit.then]
      all_goals refine bodyPost_ret (results_cuu rfl _ _ (xb + 1) 43 _ (0, 0) _ rfl (cells5d HX5.out) Try.underlying43 rfl (by kernel_rfl)) rfl ?_
      all_goals rw [← HR2.out]
      all_goals exact ⟨rfl, ((HUB.out.trans HU5.out (fun _ _ f => f)).trans (upd5 (b := xb + 1)) (fun i hi e => by have := HXB.out; omega)).drew⟩
end Go.Proofs.Ytkkickalleelkaa
