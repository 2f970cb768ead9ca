/- The walk of Middle. -/
import Derived.Test.YtkkickalleelkaaE
import Derived.Test.YtkkickalleelkaaIt
import Derived.Deep.CutBlock
namespace Go.Proofs.Ytkkickalleelkaa
open Go.RowKit Go.Acre Go.Sort
theorem owns_upd {w w' : World} {S : Nat → Prop} {base : Nat} {e : TypeId} {size : Nat} {v : Value} {n : Nat} {xs : List Value} (h : w.ownsRow base e size v n xs) (hu : Upd S w w') (hS : ∀ g, v.ownBlock = some g → ¬ S g) : w'.ownsRow base e size v n xs := by
  refine ⟨h.1, ?_⟩
  rcases h.2 with hn | ⟨g, cap, cur, rfl, hb, hg, rest⟩
  · exact .inl hn
  · exact .inr ⟨g, cap, cur, rfl, hb, hu.keep hg (hS g rfl), rest⟩
theorem owns_lt {w : World} {base : Nat} {e : TypeId} {size : Nat} {v : Value} {n : Nat} {xs : List Value} (h : w.ownsRow base e size v n xs) {g : Nat} (hg : v.ownBlock = some g) : base ≤ g ∧ g < w.heap.size := by
  rcases h.2 with ⟨rfl, _⟩ | ⟨g', cap, cur, rfl, hb, hh, _⟩
  · cases hg
  · simp only [Value.ownBlock, Option.some.injEq] at hg
    subst hg
    exact ⟨hb, lt_of_heap hh⟩
def bytesL (z : List UInt8) : ByteArray := ⟨z.toArray⟩
theorem bytesL_data (s : ByteArray) : bytesL s.data.toList = s := by unfold bytesL; simp
theorem encStr_bytes (z : List UInt8) : encStr z = .string (bytesL z) := rfl
theorem upd_putRow {α : Type} [Inhabited α] (enc : α → Value) (w : World) (blk off : Nat) (d : Array α) : Upd (fun i => i = blk) w (putRow enc w blk off d) := by
  refine ⟨rfl, rfl, rfl, by simp, fun k hk hne => ?_⟩
  unfold putRow mapBlock
  simp only [Array.getElem?_modify]
  rw [if_neg (fun e => hne e.symm)]
theorem upd_ahead (w : World) (n : Nat) : Upd (fun _ => False) w (Sort.ahead w n) := ⟨rfl, rfl, rfl, Nat.le_refl _, fun _ _ _ => rfl⟩
theorem upd_grow (w : World) (os : Array Obj) : Upd (fun _ => False) w (grow w os) := ⟨rfl, rfl, rfl, by simp, fun k hk _ => heap_grow_old w os hk⟩
theorem strs_holds {w : World} {g n cap : Nat} {d : Array (List UInt8)} {zs : List (List UInt8)} (h : Holds encStr w g 0 d) (hz : zs.length ≤ d.size) (he : ∀ i (hi : i < zs.length), d[i]! = zs[i]) (hn : n = zs.length) (hc : n ≤ cap) (hm : cap ≤ maxLen) :
    StrsAt w (.slice (some ⟨g, 0, none⟩) n cap) (zs.map bytesL) := by
  refine ⟨by simp, some ⟨g, 0, none⟩, cap, by simp [hn], by simp; omega, hm, (fun e => by cases e), fun hne => ⟨g, 0, rfl, fun i hi => ?_⟩⟩
  simp only [List.length_map] at hi
  rw [(h i (by omega)).1, he i hi]
  simp [encStr_bytes, hi]
theorem owns_holds {w : World} {base : Nat} {v : Value} {ss : List ByteArray} (h : w.ownsRow base 9 1 v ss.length (ss.map .string)) (hne : ss ≠ []) :
    ∃ g cap, v = .slice (some ⟨g, 0, none⟩) ss.length cap ∧ base ≤ g ∧ g < w.heap.size ∧ ss.length ≤ cap ∧ cap ≤ maxLen ∧ Holds encStr w g 0 (ss.map (·.data.toList)).toArray := by
  rcases h.2 with ⟨rfl, h3⟩ | ⟨g, cap, cur, rfl, hb, hg, rest⟩
  · exact absurd (List.eq_nil_of_length_eq_zero h3) hne
  · refine ⟨g, cap, rfl, hb, lt_of_heap hg, ?_, ?_, fun j hj => ?_⟩
    · exact rest.1
    · exact rest.2.1
    · simp only [List.size_toArray, List.length_map] at hj
      have hx := rest.2.2.2
      have hcj : cur[j]? = some (.string ss[j]) := by
        have h2 := congrArg (fun l => l[j]?) hx
        simp only [Nat.mul_one] at h2
        rw [List.getElem?_take, if_pos hj, List.getElem?_map, List.getElem?_eq_getElem hj] at h2
        simpa using h2
      have e : ((ss.map (·.data.toList)).toArray)[j]! = ss[j].data.toList := by
        rw [getElem!_pos _ j (by simpa using hj)]
        simp
      rw [Nat.zero_add, cell_of_heap hg j, hcj, e, frozen_of_heap hg j none, encStr_bytes, bytesL_data]
      exact ⟨rfl, rfl⟩
/-- a key's place in a range, and the rows of cells that have it -/
def inB (lo hi s : ByteArray) : Bool := userB s && hasB lo hi s
def rowsOf (lo hi : ByteArray) (l : List Ce) : List ByteArray := (l.filter fun f => inB lo hi f.row).map (·.row)
theorem rowsOf_take (lo hi : ByteArray) (l : List Ce) {k : Nat} (h : k < l.length) : rowsOf lo hi (l.take (k + 1)) = rowsOf lo hi (l.take k) ++ (if inB lo hi l[k].row = true then [l[k].row] else []) := by
  unfold rowsOf
  rw [List.take_succ_eq_append_getElem h, List.filter_append, List.map_append]
  congr 1
  by_cases hb : inB lo hi l[k].row = true <;> simp [List.filter_cons, hb]
theorem rowsOf_len (lo hi : ByteArray) (l : List Ce) : (rowsOf lo hi l).length ≤ l.length := by
  unfold rowsOf
  rw [List.length_map]
  exact List.length_filter_le _ _
def sortL (rows : List ByteArray) : List (List UInt8) := (rows.map (·.data.toList)).mergeSort fun x y => decide (x ≤ y)
def dist (rows : List ByteArray) : List ByteArray := (Lib.compact (sortL rows)).map bytesL
def midR (lo : ByteArray) (D : List ByteArray) : ByteArray × Bool := if 2 ≤ D.length ∧ D.getD (D.length / 2) ⟨#[]⟩ ≠ lo then (D.getD (D.length / 2) ⟨#[]⟩, true) else (⟨#[]⟩, false)
def MidPost (r : ByteArray × Bool) (w : World) (e : Ending) (w' : World) : Prop := e = .returned (.tuple #[.string r.1, .bool r.2]) ∧ Upd (fun _ => False) w w'
theorem in_key (lo hi s : ByteArray) : (inB lo hi s = true ∧ userB s = true ∧ Op.bytesLess s.toList lo.toList = false ∧ hi.toList.isEmpty = true) ∨ (inB lo hi s = true ∧ userB s = true ∧ Op.bytesLess s.toList lo.toList = false ∧ hi.toList.isEmpty = false ∧ Op.bytesLess s.toList hi.toList = true) ∨
    (inB lo hi s = false ∧ userB s = false) ∨ (inB lo hi s = false ∧ userB s = true ∧ Op.bytesLess s.toList lo.toList = true) ∨ (inB lo hi s = false ∧ userB s = true ∧ Op.bytesLess s.toList lo.toList = false ∧ hi.toList.isEmpty = false ∧ Op.bytesLess s.toList hi.toList = false) := by
  unfold inB hasB ltB
  cases userB s <;> cases Op.bytesLess s.toList lo.toList <;> cases hi.toList.isEmpty <;> cases Op.bytesLess s.toList hi.toList <;> simp
set_option maxHeartbeats 2000000 in
set_option maxRecDepth 100000 in
theorem middle_any {w : World} {a : Option Addr} {n cap : Nat} {l : List Ce} (h : CellsAt w (.slice a n cap) l) (hok : ∀ f ∈ l, CeOk f) (hlen : n ≤ 300) (lo hi : ByteArray) :
    Calls Try.prog 7 #[.slice a n cap, .agg #[.string lo, .string hi]] w (MidPost (midR lo (dist (rowsOf lo hi l))) w) := by
  obtain ⟨hn, h1, h2⟩ := h.fits
  obtain ⟨i0, hi0, hz0, hz1, hz2⟩ := info_parts info9
  have hx := heap_alloc (w := w) (.cells #[.string lo, .string hi] 24)
  have hu0 : Upd (fun _ => False) w (w.alloc (.cells #[.string lo, .string hi] 24)) := (Upd.refl _ w).alloc _
  have H := Lib.hid (h.upd0 hu0)
  have HOK := Lib.hid hok
  have HN := Lib.hid hn
  have HU := Lib.hid hu0
  have HX := Lib.hid hx
  clear h hok hn hx hu0
  go_enter Try.func7, Try.ntmps7
  go_upto_region 1 with fail
  generalize w.alloc (.cells #[.string lo, .string hi] 24) = wb at *
  generalize hxb : w.heap.size = xb at *
  have HXB := Lib.hid hxb
  clear hxb
  go_upto_block 0 with fail
  go_cut [6, 12] (fun s6 s12 wx => wx.ownsRow wb.heap.size 9 1 s6 (rowsOf lo hi l).length ((rowsOf lo hi l).map .string) ∧ Upd (fun _ => False) wb wx)
  case first =>
    go_wp2_with fail
    go_loopw [6, 12] (fun s i wr => ∃ (k : Nat), i = .int .i64 k ∧ k ≤ n ∧ wr.ownsRow wb.heap.size 9 1 s (rowsOf lo hi (l.take k)).length ((rowsOf lo hi (l.take k)).map .string) ∧ Upd (fun _ => False) wb wr) (fun _ i _ => n - (intOf i).toNat)
    case atStart => exact ⟨0, rfl, by omega, World.ownsRow_nil _ _ _ _, Upd.refl _ _⟩
    case round =>
      obtain ⟨k, rfl, hk, ho, hu⟩ := hrel
      by_cases hlt : k < n
      · have hlti : (k : Int) < (n : Int) := by omega
        have hk0 : (0 : Int) ≤ (k : Int) := by omega
        have hkl : k < l.length := by rw [← HN.out]; exact hlt
        obtain ⟨g, o, rfl, c0, c1, c2, c3, c4⟩ := (H.out.upd0 hu).cell hkl
        have HT := Lib.hid (rowsOf_take lo hi l hkl)
        have hrl := rowsOf_len lo hi (l.take k)
        rw [List.length_take] at hrl
        obtain ⟨z0, _, _, _⟩ := HOK.out l[k] (List.getElem_mem hkl)
        obtain ⟨p0, p1, _, _⟩ := box2 (hu.keep HX.out (fun f => f))
        have HOW := Lib.hid ho
        have hkey := in_key lo hi l[k].row
        have HUS : Hid (∀ w', Calls Try.prog 18 #[.string l[k].row] w' (BoolPost (userB l[k].row) w')) := fun w' => user_any _ w' (by omega)
        clear ho
        generalize l[k] = f at *
        generalize rowsOf lo hi (l.take k) = rows at *
        rcases hkey with ⟨hb, hus, hlo, he⟩ | ⟨hb, hus, hlo, he, hhi⟩ | ⟨hb, hus⟩ | ⟨hb, hus, hlo⟩ | ⟨hb, hus, hlo, he, hhi⟩
        all_goals
          rw [hus] at HUS
          have HB := Lib.hid hb
          have HUSR := Lib.hid hus
          clear hb hus
        all_goals
          go_upto_region 5 with fail
          have hx1 := heap_alloc (w := wr) (.cells #[.string f.row, .string f.col, .int .u64 (f.ver : Nat), .bool f.gone, .string f.val] 48)
          have hu1 : Upd (fun _ => False) wr (wr.alloc (.cells #[.string f.row, .string f.col, .int .u64 (f.ver : Nat), .bool f.gone, .string f.val] 48)) := (Upd.refl _ wr).alloc _
          have d0 := cell_of_heap hx1 0
          simp only [List.getElem?_toArray, List.getElem?_cons_zero] at d0
          obtain ⟨q0, q1, _, _⟩ := box2 ((hu.trans hu1 (fun _ _ f => f)).keep HX.out (fun f => f))
          have hos := HOW.out.1
          have HO1 := Lib.hid (owns_upd HOW.out hu1 (fun _ _ f => f))
          have HU1 := Lib.hid (hu.trans hu1 (fun _ _ f => f))
          clear hx1 hu1 p0 p1 HOW hu c0 c1 c2 c3 c4
          generalize wr.alloc (.cells #[.string f.row, .string f.col, .int .u64 (f.ver : Nat), .bool f.gone, .string f.val] 48) = w1 at *
          generalize wr.heap.size = cb at *
          go_wp2_with fail
          refine (HUS.out _).mono ?_
          rintro e w' ⟨rfl, rfl⟩
        · have hsz := HU1.out.size
          go_upto_region 6 with fail
          have hu2 : Upd (fun _ => False) w1 (w1.alloc (.cells #[.string f.row] 9)) := (Upd.refl _ w1).alloc _
          have HO2 := Lib.hid (owns_upd HO1.out hu2 (fun _ _ f => f))
          have HS2 := Lib.hid (strs_alloc (w := w1) (t := 9) [f.row] (by simp))
          have HU2 := Lib.hid (HU1.out.trans hu2 (fun _ _ f => f))
          clear hu2
          go_wp2_with (at_builtin; refine wpList_append_row rfl _ _ 52 rfl wb.heap.size 9 i0 (.string ⟨#[]⟩) 1 16 Try.underlying52 hi0 hz0 hz1 hz2 rfl (by decide) _ _ _ rfl HO2.out _ 1 [.string f.row] rfl HS2.out ?c2 ?c3 ?c4 ?c5 ?_)
          case c2 => intro z hz; simp at hz; subst hz; rfl
          case c3 => unfold maxLen; omega
          case c4 => omega
          case c5 => simp; omega
          intro v2 w2 hown hg
          have HUN := Lib.hid (HU2.out.of_grown hg (fun j hj hj2 => by have := (owns_lt HO2.out hj).1; omega))
          have HOW2 := Lib.hid hown
          clear hown hg
          go_wp2_with fail
          exact ⟨⟨k + 1, by go_num, by omega, (by rw [HT.out, HB.out, if_pos rfl, List.map_append, List.length_append]; exact HOW2.out), HUN.out⟩, by simp [intOf]; omega⟩
        · have hsz := HU1.out.size
          go_upto_region 6 with fail
          have hu2 : Upd (fun _ => False) w1 (w1.alloc (.cells #[.string f.row] 9)) := (Upd.refl _ w1).alloc _
          have HO2 := Lib.hid (owns_upd HO1.out hu2 (fun _ _ f => f))
          have HS2 := Lib.hid (strs_alloc (w := w1) (t := 9) [f.row] (by simp))
          have HU2 := Lib.hid (HU1.out.trans hu2 (fun _ _ f => f))
          clear hu2
          go_wp2_with (at_builtin; refine wpList_append_row rfl _ _ 52 rfl wb.heap.size 9 i0 (.string ⟨#[]⟩) 1 16 Try.underlying52 hi0 hz0 hz1 hz2 rfl (by decide) _ _ _ rfl HO2.out _ 1 [.string f.row] rfl HS2.out ?c2 ?c3 ?c4 ?c5 ?_)
          case c2 => intro z hz; simp at hz; subst hz; rfl
          case c3 => unfold maxLen; omega
          case c4 => omega
          case c5 => simp; omega
          intro v2 w2 hown hg
          have HUN := Lib.hid (HU2.out.of_grown hg (fun j hj hj2 => by have := (owns_lt HO2.out hj).1; omega))
          have HOW2 := Lib.hid hown
          clear hown hg
          go_wp2_with fail
          exact ⟨⟨k + 1, by go_num, by omega, (by rw [HT.out, HB.out, if_pos rfl, List.map_append, List.length_append]; exact HOW2.out), HUN.out⟩, by simp [intOf]; omega⟩
        · go_wp2_with fail
          exact ⟨⟨k + 1, by go_num, by omega, (by rw [HT.out, HB.out, if_neg (by simp), List.append_nil]; exact HO1.out), HU1.out⟩, by simp [intOf]; omega⟩
        · go_wp2_with fail
          exact ⟨⟨k + 1, by go_num, by omega, (by rw [HT.out, HB.out, if_neg (by simp), List.append_nil]; exact HO1.out), HU1.out⟩, by simp [intOf]; omega⟩
        · go_wp2_with fail
          exact ⟨⟨k + 1, by go_num, by omega, (by rw [HT.out, HB.out, if_neg (by simp), List.append_nil]; exact HO1.out), HU1.out⟩, by simp [intOf]; omega⟩
      · have hlti : ¬ (k : Int) < (n : Int) := by omega
        obtain rfl : k = n := by omega
        have e : rowsOf lo hi (l.take k) = rowsOf lo hi l := by rw [HN.out, List.take_length]
        rw [e] at ho
        have HO := Lib.hid ho
        clear ho e
        go_wp2_with fail
        go_meet
        case rel => exact ⟨HO.out, hu⟩
  case rest =>
    obtain ⟨ho, hu⟩ := hcut
    have hrl := rowsOf_len lo hi l
    have hrl2 : (rowsOf lo hi l).length ≤ 300 := by have := HN.out; omega
    generalize rowsOf lo hi l = rows at *
    have HU0 := Lib.hid (HU.out.trans hu (fun _ _ f => f))
    have hbs : w.heap.size ≤ wb.heap.size := HU.out.size
    have hX := hu.keep HX.out (fun f => f)
    by_cases hne : rows = []
    · subst hne
      have hm : midR lo (dist []) = (⟨#[]⟩, false) := by
        unfold midR
        rw [if_neg]
        intro h
        have : (dist []).length = 0 := by simp [dist, sortL, Lib.compact, Lib.compactUpTo]
        omega
      have HM := Lib.hid hm
      obtain ⟨va, vc, e⟩ := (RowAt.of_own ho).slice
      obtain ⟨p0, p1, _, _⟩ := box2 hX
      clear ho hm hX
      subst e
      go_wp2_with fail
      refine (Try.slices_Sort_string_none va vc _).mono ?_
      rintro e w1 ⟨rfl, rfl⟩
      go_wp2_with fail
      refine (Try.slices_Compact_string_empty va vc _).mono ?_
      rintro e w1 ⟨rfl, rfl⟩
      go_upto_region 11 with fail
      go_quiet (fail)
      go_wp2_with fail
      go_ret2
      rw [HM.out]
      exact ⟨rfl, HU0.out.drewN _⟩
    · obtain ⟨g, cp, hv, hg1, hg2, hcp, hcm, hH⟩ := owns_holds ho hne
      subst hv
      have hlS : (sortL rows).length = rows.length := by unfold sortL; rw [List.length_mergeSort, List.length_map]
      have hu1 : ∀ (q : Nat) (os : Array Obj), Upd (fun i => i = g) wc (grow (putRow encStr (Sort.ahead wc q) g 0 (sortL rows).toArray) os) := fun q os => ((upd_ahead wc q).mono (fun _ _ f => f.elim)).trans ((upd_putRow encStr _ g 0 _).trans (upd_grow _ os) (fun _ _ f => f.elim)) (fun _ _ e => e)
      have hH1 : ∀ (q : Nat) (os : Array Obj), Holds encStr (grow (putRow encStr (Sort.ahead wc q) g 0 (sortL rows).toArray) os) g 0 (sortL rows).toArray := fun q os => holds_grow _ _ _ _ _ _ (by simpa using hg2) (holds_putRow _ _ _ _ _ _ (holds_ahead _ _ _ _ _ _ hH) (by simp [hlS]))
      have hsort := Try.slices_Sort_string g 0 cp (rows.map (·.data.toList)) wc hH hg2 (by rw [List.length_map]; omega)
      rw [List.length_map] at hsort
      have HSO : Hid (Calls Try.prog 21 #[.slice (some ⟨g, 0, none⟩) rows.length cp] wc fun e w' => e = .returned (.tuple #[]) ∧ ∃ n os, w' = grow (putRow encStr (Sort.ahead wc n) g 0 (sortL rows).toArray) os) := hsort
      have HH1 := Lib.hid hH1
      have HU1 := Lib.hid hu1
      have HLS := Lib.hid hlS
      have HX2 := Lib.hid hX
      have hxg : xb ≠ g := by have := lt_of_heap HX.out; omega
      clear hsort hH hu1 hH1 hlS ho hX
      go_wp2_with fail
      refine HSO.out.mono ?_
      rintro e w1 ⟨rfl, q, os, hw1⟩
      have hh1 := HH1.out q os
      have hup1 := HU1.out q os
      rw [← hw1] at hh1 hup1
      clear hw1
      have hcpt := Try.slices_Compact_string g 0 cp (sortL rows) w1 hh1 (by rw [HLS.out]; omega) (by rw [HLS.out]; exact hcp)
      rw [HLS.out] at hcpt
      have hle := Lib.compact_length_le (sortL rows)
      rw [HLS.out] at hle
      have HCP := Lib.hid hcpt
      have HHH := Lib.hid hh1
      have HUP := Lib.hid hup1
      have hg3 : g < w1.heap.size := Nat.lt_of_lt_of_le hg2 hup1.size
      clear hcpt hh1 hup1 HSO HH1 HU1
      go_wp2_with fail
      refine HCP.out.mono ?_
      rintro e w2 ⟨rfl, q2, hw2⟩
      have hlc : ((Lib.compact (sortL rows) ++ List.replicate (rows.length - (Lib.compact (sortL rows)).length) []).toArray).size = (sortL rows).toArray.size := by
        simp only [List.size_toArray, List.length_append, List.length_replicate]
        rw [HLS.out]
        omega
      have hh2 : Holds encStr w2 g 0 (Lib.compact (sortL rows) ++ List.replicate (rows.length - (Lib.compact (sortL rows)).length) []).toArray := by
        rw [hw2]
        exact holds_putRow _ _ _ _ _ _ (holds_ahead _ _ _ _ _ _ HHH.out) hlc
      have hup2 : Upd (fun i => i = g) w1 w2 := by
        rw [hw2]
        exact ((upd_ahead w1 q2).mono (fun _ _ f => f.elim)).trans (upd_putRow encStr _ g 0 _) (fun _ _ e => e)
      have hst : StrsAt w2 (.slice (some ⟨g, 0, none⟩) (Lib.compact (sortL rows)).length cp) (dist rows) := strs_holds hh2 (by simp) (fun i hi => by
        rw [getElem!_pos _ i (by simp; omega)]
        simp [List.getElem_append_left hi]) rfl (by omega) hcm
      have hx3 := hup2.keep (HUP.out.keep HX2.out hxg) hxg
      have hdl : (Lib.compact (sortL rows)).length = (dist rows).length := by unfold dist; rw [List.length_map]
      have HUF : Hid (Upd (fun _ => False) w w2) := Lib.hid ((HU0.out.trans HUP.out (fun i hi e => by have := HXB.out; omega)).trans hup2 (fun i hi e => by have := HXB.out; omega))
      rw [hdl] at hst hle ⊢
      have HST := Lib.hid hst
      obtain ⟨p0, p1, _, _⟩ := box2 hx3
      clear hst hx3 hup2 hh2 hw2 hlc hdl HCP HHH HUP HX2 HLS
      obtain ⟨D, hD⟩ : ∃ D, dist rows = D := ⟨_, rfl⟩
      rw [hD] at hle HST ⊢
      have HMR : Hid (midR lo (dist rows) = midR lo D) := Lib.hid (by rw [hD])
      clear hD
      by_cases h2 : 2 ≤ D.length
      · have hlt2 : D.length / 2 < D.length := by omega
        obtain ⟨g', o', e', cD⟩ := HST.out.cell hlt2
        simp only [Option.some.injEq, Addr.mk.injEq, and_true] at e'
        obtain ⟨rfl, rfl⟩ := e'
        have hge : (2 : Int) ≤ (D.length : Int) := by omega
        have hgd : D.getD (D.length / 2) ⟨#[]⟩ = D[D.length / 2] := by simp [hlt2]
        have q1 : (D.length : Int).tdiv 2 = ((D.length / 2 : Nat) : Int) := by
          rw [Int.tdiv_eq_ediv_of_nonneg (by omega)]
          omega
        have hm : midR lo D = if D[D.length / 2] ≠ lo then (D[D.length / 2], true) else (⟨#[]⟩, false) := by
          unfold midR
          rw [hgd]
          simp only [h2, true_and]
        have hhi : (D.length / 2 : Nat) < D.length := hlt2
        have hhj : ((D.length / 2 : Nat) : Int) < (D.length : Int) := by omega
        have hhk : (0 : Int) ≤ ((D.length / 2 : Nat) : Int) := by omega
        generalize D[D.length / 2] = md at *
        have q2 : (D.length : Int) / 2 = ((D.length / 2 : Nat) : Int) := by omega
        generalize D.length / 2 = mi at *
        rw [Nat.zero_add] at cD
        by_cases hml : md = lo
        · subst hml
          rw [if_neg (by simp)] at hm
          have HM := Lib.hid hm
          clear hm hgd
          go_upto_region 11 with fail
          go_quiet (fail)
          go_wp2_with fail
          go_ret2
          rw [HMR.out, HM.out]
          exact ⟨rfl, HUF.out.drewN _⟩
        · rw [if_pos hml] at hm
          have HM := Lib.hid hm
          have hne2 : (md.toList == lo.toList) = false := by
            rw [beq_eq_false_iff_ne]
            intro e
            rw [ByteArray.toList_eq, ByteArray.toList_eq] at e
            exact hml (by
              cases md
              cases lo
              simp only at e
              rw [Array.toList_inj] at e
              rw [e])
          have hne3 : md.toList ≠ lo.toList := by simpa using hne2
          clear hm hgd hml
          go_upto_region 11 with fail
          go_quiet (fail)
          go_wp2_with fail
          go_ret2
          rw [HMR.out, HM.out]
          exact ⟨rfl, HUF.out.drewN _⟩
      · have hge : ¬ (2 : Int) ≤ (D.length : Int) := by omega
        have hm : midR lo D = (⟨#[]⟩, false) := by
          unfold midR
          rw [if_neg (fun h => h2 h.1)]
        have HM := Lib.hid hm
        have hd1 : decide ((2 : Int) ≤ (D.length : Int)) = false := by simp; omega
        have hd2 : decide (2 ≤ D.length) = false := by simp; omega
        have hd3 : (D.length : Int) < 2 := by omega
        clear hm
        go_upto_region 11 with fail
        go_quiet (fail)
        go_wp2_with fail
        go_ret2
        rw [HMR.out, HM.out]
        exact ⟨rfl, HUF.out.drewN _⟩
end Go.Proofs.Ytkkickalleelkaa
