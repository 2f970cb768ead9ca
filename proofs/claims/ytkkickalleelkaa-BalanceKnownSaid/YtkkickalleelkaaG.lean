/- The walk of the reference's Middle. -/
import Derived.Test.YtkkickalleelkaaF
namespace Go.Proofs.Ytkkickalleelkaa
open Go.RowKit Go.Acre Go.Sort
theorem StrsAt_take {w : World} {a : Option Addr} {n cap : Nat} {D : List ByteArray} (hn : n = D.length) (h : StrsAt w (.slice a n cap) D) (m : Nat) (hm : m ≤ n) : StrsAt w (.slice a m cap) (D.take m) := by
  obtain ⟨hl, a', c', hv, h1, h2, h3, hc⟩ := h
  simp only [Value.slice.injEq] at hv
  obtain ⟨rfl, _, rfl⟩ := hv
  have e : (D.take m).length = m := by rw [List.length_take]; omega
  refine ⟨by simp, a, cap, by rw [e], by omega, h2, h3, fun hne => ?_⟩
  obtain ⟨g, o, hg, hcell⟩ := hc (fun e0 => hne (by rw [List.map_take, e0]; simp))
  refine ⟨g, o, hg, fun i hi => ?_⟩
  simp only [List.length_map, List.length_take] at hi
  rw [hcell i (by simp; omega), List.map_take, List.getElem?_take, if_pos (by omega)]
theorem StrsAt_drop {w : World} {a : Option Addr} {n cap : Nat} {D : List ByteArray} (hn : n = D.length) (h : StrsAt w (.slice a n cap) D) (m : Nat) (hm : m ≤ n) : StrsAt w (.slice (if cap = m then a else Option.map (fun x => x.add m) a) (n - m) (cap - m)) (D.drop m) := by
  obtain ⟨hl, a', c', hv, h1, h2, h3, hc⟩ := h
  simp only [Value.slice.injEq] at hv
  obtain ⟨rfl, _, rfl⟩ := hv
  have e : (D.drop m).length = n - m := by simp; omega
  refine ⟨by simp, _, cap - m, by rw [e], by omega, by omega, fun e0 => ?_, fun hne => ?_⟩
  · by_cases hcm : cap = m
    · omega
    · rw [if_neg hcm] at e0
      have := h3 (by simpa using e0)
      omega
  · have hlt : m < n := by
      by_cases hmn : m < n
      · exact hmn
      · exact absurd (by simp; omega) hne
    obtain ⟨g, o, hg, hcell⟩ := hc (fun e0 => hne (by rw [List.map_drop, e0]; simp))
    subst hg
    rw [if_neg (by omega)]
    refine ⟨g, o + m, by simp [none_add], fun i hi => ?_⟩
    simp only [List.length_map, List.length_drop] at hi
    rw [Nat.add_assoc, hcell _ (by simp; omega), List.map_drop, List.getElem?_drop]
theorem strs_fits {w : World} {a : Option Addr} {n cap : Nat} {D : List ByteArray} (h : StrsAt w (.slice a n cap) D) : n = D.length ∧ n ≤ cap ∧ cap ≤ maxLen := by
  obtain ⟨_, a', c', hv, h1, h2, _⟩ := h
  simp only [Value.slice.injEq] at hv
  obtain ⟨_, rfl, rfl⟩ := hv
  exact ⟨rfl, h1, h2⟩
theorem strs_one (ss : List ByteArray) : ∀ u ∈ ss.map Value.string, u.oneCell' = true := by
  intro u hu
  obtain ⟨s, _, rfl⟩ := List.mem_map.1 hu
  rfl
theorem str_ne {a b : ByteArray} (h : a ≠ b) : (a.toList == b.toList) = false := by
  rw [beq_eq_false_iff_ne]
  intro e
  rw [ByteArray.toList_eq, ByteArray.toList_eq] at e
  exact h (by
    cases a
    cases b
    simp only at e
    rw [Array.toList_inj] at e
    rw [e])
/-- the place of a text in a sorted row -/
def posB (D : List ByteArray) (s : ByteArray) : Nat := (D.takeWhile fun x => ltB x s).length
theorem posB_le (D : List ByteArray) (s : ByteArray) : posB D s ≤ D.length := by
  unfold posB
  induction D with
  | nil => simp
  | cons x r ih =>
    rw [List.takeWhile_cons]
    split
    · simp only [List.length_cons]; omega
    · simp
theorem posB_lt (D : List ByteArray) (s : ByteArray) : ∀ i (hi : i < D.length), i < posB D s → ltB D[i] s = true := by
  unfold posB
  induction D with
  | nil => intro i hi; cases hi
  | cons x r ih =>
    intro i hi hlt
    rw [List.takeWhile_cons] at hlt
    split at hlt
    · rename_i hx
      cases i with
      | zero => exact hx
      | succ i =>
        simp only [List.length_cons] at hlt
        exact ih i (by simpa using hi) (by omega)
    · simp at hlt
theorem posB_ge (D : List ByteArray) (s : ByteArray) : ∀ i (hi : i < D.length), i = posB D s → ltB D[i] s = false := by
  unfold posB
  induction D with
  | nil => intro i hi; cases hi
  | cons x r ih =>
    intro i hi he
    by_cases hx : ltB x s = true
    · rw [List.takeWhile_cons, if_pos hx, List.length_cons] at he
      cases i with
      | zero => omega
      | succ i =>
        rw [List.getElem_cons_succ]
        exact ih i (by simpa using hi) (by omega)
    · rw [List.takeWhile_cons, if_neg hx] at he
      subst he
      simpa using hx
def insD (D : List ByteArray) (s : ByteArray) : List ByteArray := if D[posB D s]? = some s then D else D.take (posB D s) ++ [s] ++ D.drop (posB D s)
def rD (rows : List ByteArray) : List ByteArray := rows.foldl insD []
theorem rD_snoc (rows : List ByteArray) (s : ByteArray) : rD (rows ++ [s]) = insD (rD rows) s := by
  unfold rD
  rw [List.foldl_append]
  rfl
theorem insD_len (D : List ByteArray) (s : ByteArray) : (insD D s).length ≤ D.length + 1 := by
  unfold insD
  have := posB_le D s
  split
  · omega
  · simp; omega
theorem rD_take (lo hi : ByteArray) (l : List Ce) {k : Nat} (h : k < l.length) : rD (rowsOf lo hi (l.take (k + 1))) = if inB lo hi l[k].row = true then insD (rD (rowsOf lo hi (l.take k))) l[k].row else rD (rowsOf lo hi (l.take k)) := by
  rw [rowsOf_take lo hi l h]
  split
  · exact rD_snoc _ _
  · rw [List.append_nil]
theorem rD_len (rows : List ByteArray) : (rD rows).length ≤ rows.length := by
  have : ∀ (rs : List ByteArray) (D : List ByteArray), (rs.foldl insD D).length ≤ D.length + rs.length := by
    intro rs
    induction rs with
    | nil => intro D; simp
    | cons x r ih =>
      intro D
      have h1 := ih (insD D x)
      have h2 := insD_len D x
      simp only [List.foldl_cons, List.length_cons]
      omega
  have := this rows []
  simpa [rD] using this
set_option maxHeartbeats 4000000 in
set_option maxRecDepth 100000 in
theorem rmiddle_any {w : World} {a : Option Addr} {n cap : Nat} {l : List Ce} (h : CellsAt w (.slice a n cap) l) (hok : ∀ f ∈ l, CeOk f) (hlen : n ≤ 300) (lo hi : ByteArray) :
    Calls Try.prog 8 #[.slice a n cap, .agg #[.string lo, .string hi]] w (MidPost (midR lo (rD (rowsOf lo hi l))) w) := by
  obtain ⟨hn, h1, h2⟩ := h.fits
  obtain ⟨i0, hi0, hz0, hz1, hz2⟩ := info_parts info9
  have hx := heap_alloc (w := w) (.cells #[.string lo, .string hi] 24)
  have hu0 : Upd (fun _ => False) w (w.alloc (.cells #[.string lo, .string hi] 24)) := (Upd.refl _ w).alloc _
  have H := Lib.hid (h.upd0 hu0)
  have HOK := Lib.hid hok
  have HN := Lib.hid hn
  have HU := Lib.hid hu0
  have HX := Lib.hid hx
  clear h hok hn hx hu0
  go_enter Try.func8, Try.ntmps8
  go_upto_region 1 with fail
  generalize w.alloc (.cells #[.string lo, .string hi] 24) = wb at *
  generalize hxb : w.heap.size = xb at *
  have HXB := Lib.hid hxb
  clear hxb
  go_upto_block 0 with fail
  go_cut [6, 7] (fun s6 s7 wx => StrsAt wx s6 (rD (rowsOf lo hi l)) ∧ Upd (fun _ => False) wb wx)
  case first =>
    go_wp2_with fail
    go_loopw [6, 7] (fun s i wr => ∃ (k : Nat), i = .int .i64 k ∧ k ≤ n ∧ StrsAt wr s (rD (rowsOf lo hi (l.take k))) ∧ Upd (fun _ => False) wb wr) (fun _ i _ => n - (intOf i).toNat)
    case atStart => exact ⟨0, rfl, by omega, StrsAt.nil _, Upd.refl _ _⟩
    case round =>
      obtain ⟨k, rfl, hk, ho, hu⟩ := hrel
      by_cases hlt : k < n
      · have hlti : (k : Int) < (n : Int) := by omega
        have hk0 : (0 : Int) ≤ (k : Int) := by omega
        have hkl : k < l.length := by rw [← HN.out]; exact hlt
        obtain ⟨g, o, rfl, c0, c1, c2, c3, c4⟩ := (H.out.upd0 hu).cell hkl
        have HT := Lib.hid (rD_take lo hi l hkl)
        have hrl := rD_len (rowsOf lo hi (l.take k))
        have hrl2 := rowsOf_len lo hi (l.take k)
        rw [List.length_take] at hrl2
        obtain ⟨z0, _, _, _⟩ := HOK.out l[k] (List.getElem_mem hkl)
        obtain ⟨p0, p1, _, _⟩ := box2 (hu.keep HX.out (fun f => f))
        have hkey := in_key lo hi l[k].row
        have HUS : Hid (∀ w', Calls Try.prog 23 #[.string l[k].row] w' (BoolPost (userB l[k].row) w')) := fun w' => ruser_any _ w' (by omega)
        have hD3 : (rD (rowsOf lo hi (l.take k))).length ≤ 300 := by omega
        clear hrl hrl2
        generalize l[k] = f at *
        generalize rD (rowsOf lo hi (l.take k)) = D at *
        have HST := Lib.hid ho
        clear ho
        rcases hkey with ⟨hb, hus, hlo, he⟩ | ⟨hb, hus, hlo, he, hhi⟩ | ⟨hb, hus⟩ | ⟨hb, hus, hlo⟩ | ⟨hb, hus, hlo, he, hhi⟩
        all_goals
          rw [hus] at HUS
          have HB := Lib.hid hb
          have HUSR := Lib.hid hus
          have HUV := Lib.hid hu
          clear hb hus hu c1 c2 c3 c4
          go_wp2_with fail
          refine (HUS.out _).mono ?_
          rintro e w' ⟨rfl, rfl⟩
        · obtain ⟨da, dc, eu6⟩ := HST.out.slice
          subst eu6
          obtain ⟨_, hdc1, hdc2⟩ := strs_fits HST.out
          obtain ⟨P, hP⟩ : ∃ P, posB D f.row = P := ⟨_, rfl⟩
          have hPle := posB_le D f.row
          have hPlt := posB_lt D f.row
          have hPge := posB_ge D f.row
          have hins : insD D f.row = if D[posB D f.row]? = some f.row then D else D.take (posB D f.row) ++ [f.row] ++ D.drop (posB D f.row) := rfl
          rw [hP] at hPle hPlt hPge hins
          have HPL := Lib.hid hPlt
          have HPG := Lib.hid hPge
          have HINS := Lib.hid hins
          clear hPlt hPge hins hP
          go_upto_region 7 with fail
          go_wp2_with fail
          go_loop [9] (fun i => ∃ j : Nat, i = .int .i64 j ∧ j ≤ P) (fun i => P - (intOf i).toNat)
          case atStart => exact ⟨0, rfl, by omega⟩
          case round =>
            obtain ⟨j, rfl, hj⟩ := hrel
            have hj0 : (0 : Int) ≤ (j : Int) := by omega
            by_cases hjP : j < P
            · have hjl : j < D.length := by omega
              have hjli : (j : Int) < (D.length : Int) := by omega
              obtain ⟨g2, o2, rfl, d0⟩ := HST.out.cell hjl
              have hless : Op.bytesLess D[j].toList f.row.toList = true := HPL.out j hjl hjP
              generalize D[j] = x at *
              go_wp2_with fail
              exact ⟨⟨j + 1, by go_num, by omega⟩, by simp [intOf]; omega⟩
            · obtain rfl : j = P := by omega
              by_cases hjl : j < D.length
              · have hjli : (j : Int) < (D.length : Int) := by omega
                obtain ⟨g2, o2, rfl, d0⟩ := HST.out.cell hjl
                have hless : Op.bytesLess D[j].toList f.row.toList = false := HPG.out j hjl rfl
                have hins : insD D f.row = if D[j]? = some f.row then D else D.take j ++ [f.row] ++ D.drop j := HINS.out
                rw [List.getElem?_eq_getElem hjl] at hins
                generalize D[j] = x at *
                by_cases hxe : x = f.row
                · subst hxe
                  rw [if_pos rfl] at hins
                  have HI := Lib.hid hins
                  clear hins
                  go_wp2_with fail
                  exact ⟨⟨k + 1, by go_num, by omega, (by rw [HT.out, HB.out, if_pos rfl, HI.out]; exact HST.out), HUV.out⟩, by simp [intOf]; omega⟩
                · rw [if_neg (by simpa using hxe)] at hins
                  have HI := Lib.hid hins
                  have hxn := str_ne hxe
                  have hxn2 : x.toList ≠ f.row.toList := by simpa using hxn
                  clear hins hxe
                  go_upto_region 12 with fail
                  have HTK := Lib.hid (StrsAt_take rfl HST.out j hPle)
                  have htl : (D.take j).length = j := by rw [List.length_take]; omega
                  go_wp2_with (at_builtin; refine wpList_append_row rfl _ _ 52 rfl wr.heap.size 9 i0 (.string ⟨#[]⟩) 1 16 Try.underlying52 hi0 hz0 hz1 hz2 rfl (by decide) _ _ _ rfl (World.ownsRow_nil _ _ _ _) _ _ _ rfl HTK.out ?a2 ?a3 ?a4 ?a5 ?_)
                  case a2 => intro u hu; exact strs_one D u (List.mem_of_mem_take hu)
                  case a3 => unfold maxLen; omega
                  case a4 => omega
                  intro v1 w1 own1 gr1
                  have hu1 : Upd (fun _ => False) wr w1 := (Upd.refl _ wr).of_grown gr1 (fun j hj _ => by cases hj)
                  have HO1 := Lib.hid own1
                  have HU1 := Lib.hid hu1
                  have hs1 := hu1.size
                  clear own1 gr1 hu1
                  go_upto_region 13 with fail
                  have hu2 : Upd (fun _ => False) w1 (w1.alloc (.cells #[.string f.row] 9)) := (Upd.refl _ w1).alloc _
                  have HO2 := Lib.hid (owns_upd HO1.out hu2 (fun _ _ f => f))
                  have HS2 := Lib.hid (strs_alloc (w := w1) (t := 9) [f.row] (by simp))
                  have HU2 := Lib.hid (HU1.out.trans hu2 (fun _ _ f => f))
                  clear hu2
                  go_wp2_with (at_builtin; refine wpList_append_row rfl _ _ 52 rfl wr.heap.size 9 i0 (.string ⟨#[]⟩) 1 16 Try.underlying52 hi0 hz0 hz1 hz2 rfl (by decide) _ _ _ rfl HO2.out _ 1 [.string f.row] rfl HS2.out ?b2 ?b3 ?b4 ?b5 ?_)
                  case b2 => intro z hz; simp at hz; subst hz; rfl
                  case b3 => unfold maxLen; omega
                  case b4 => omega
                  case b5 => simp; omega
                  intro v2 w2 own2 gr2
                  have HU3 := Lib.hid (HU2.out.of_grown gr2 (fun j hj hj2 => by have := (owns_lt HO2.out hj).1; omega))
                  have HO3 := Lib.hid own2
                  clear own2 gr2
                  have hs3 := HU3.out.size
                  have hdr0 := StrsAt_drop rfl (HST.out.upd0 HU3.out) j hPle
                  have hdl : (D.drop j).length = D.length - j := List.length_drop
                  have e1 : (D.take j ++ [f.row] ++ D.drop j).length = j + 1 + (D.length - j) := by simp only [List.length_append, List.length_singleton, htl, hdl]
                  have e2 : (D.take j ++ [f.row] ++ D.drop j).map Value.string = List.take j (D.map .string) ++ .string f.row :: List.drop j (D.map .string) := by simp [List.map_take, List.map_drop]
                  have HE1 := Lib.hid e1
                  have HE2 := Lib.hid e2
                  clear e1 e2
                  have hdj : ¬ dc = j := by omega
                  rw [if_neg hdj, Option.map_some, none_add] at hdr0
                  have HDR := Lib.hid hdr0
                  clear hdr0
                  go_upto_region 14 with fail
                  go_wp2_with (at_builtin; refine wpList_append_row rfl _ _ 52 rfl wr.heap.size 9 i0 (.string ⟨#[]⟩) 1 16 Try.underlying52 hi0 hz0 hz1 hz2 rfl (by decide) _ _ _ rfl HO3.out _ _ _ rfl HDR.out ?f2 ?f3 ?f4 ?f5 ?_)
                  case f2 => first | exact strs_one _ | (intro u hu; exact strs_one D u (List.mem_of_mem_drop hu))
                  case f3 => unfold maxLen; omega
                  case f4 => omega
                  case f5 => omega
                  intro v3 w3 own3 gr3
                  have HU4 := Lib.hid (HU3.out.of_grown gr3 (fun j hj hj2 => by have := (owns_lt HO3.out hj).1; omega))
                  have HO4 : Hid (w3.ownsRow wr.heap.size 9 1 v3 (D.take j ++ [f.row] ++ D.drop j).length ((D.take j ++ [f.row] ++ D.drop j).map .string)) := Lib.hid (by
                    rw [HE1.out, HE2.out]
                    exact own3)
                  clear own3 gr3
                  go_wp2_with fail
                  exact ⟨⟨k + 1, by go_num, by omega, (by rw [HT.out, HB.out, if_pos rfl, HI.out]; exact StrsAt.of_own HO4.out), HUV.out.trans HU4.out (fun _ _ f => f)⟩, by simp [intOf]; omega⟩
              · have hjeq : j = D.length := by omega
                have hjli : ¬ (j : Int) < (D.length : Int) := by omega
                have hins : insD D f.row = if D[j]? = some f.row then D else D.take j ++ [f.row] ++ D.drop j := HINS.out
                rw [List.getElem?_eq_none (by omega), if_neg (by simp)] at hins
                have HI := Lib.hid hins
                have HJE := Lib.hid hjeq
                clear hins hjeq
                go_upto_region 12 with fail
                have HTK := Lib.hid (StrsAt_take rfl HST.out j hPle)
                have htl : (D.take j).length = j := by rw [List.length_take]; omega
                go_wp2_with (at_builtin; refine wpList_append_row rfl _ _ 52 rfl wr.heap.size 9 i0 (.string ⟨#[]⟩) 1 16 Try.underlying52 hi0 hz0 hz1 hz2 rfl (by decide) _ _ _ rfl (World.ownsRow_nil _ _ _ _) _ _ _ rfl HTK.out ?a2 ?a3 ?a4 ?a5 ?_)
                case a2 => intro u hu; exact strs_one D u (List.mem_of_mem_take hu)
                case a3 => unfold maxLen; omega
                case a4 => omega
                intro v1 w1 own1 gr1
                have hu1 : Upd (fun _ => False) wr w1 := (Upd.refl _ wr).of_grown gr1 (fun j hj _ => by cases hj)
                have HO1 := Lib.hid own1
                have HU1 := Lib.hid hu1
                have hs1 := hu1.size
                clear own1 gr1 hu1
                go_upto_region 13 with fail
                have hu2 : Upd (fun _ => False) w1 (w1.alloc (.cells #[.string f.row] 9)) := (Upd.refl _ w1).alloc _
                have HO2 := Lib.hid (owns_upd HO1.out hu2 (fun _ _ f => f))
                have HS2 := Lib.hid (strs_alloc (w := w1) (t := 9) [f.row] (by simp))
                have HU2 := Lib.hid (HU1.out.trans hu2 (fun _ _ f => f))
                clear hu2
                go_wp2_with (at_builtin; refine wpList_append_row rfl _ _ 52 rfl wr.heap.size 9 i0 (.string ⟨#[]⟩) 1 16 Try.underlying52 hi0 hz0 hz1 hz2 rfl (by decide) _ _ _ rfl HO2.out _ 1 [.string f.row] rfl HS2.out ?b2 ?b3 ?b4 ?b5 ?_)
                case b2 => intro z hz; simp at hz; subst hz; rfl
                case b3 => unfold maxLen; omega
                case b4 => omega
                case b5 => simp; omega
                intro v2 w2 own2 gr2
                have HU3 := Lib.hid (HU2.out.of_grown gr2 (fun j hj hj2 => by have := (owns_lt HO2.out hj).1; omega))
                have HO3 := Lib.hid own2
                clear own2 gr2
                have hs3 := HU3.out.size
                have hdr0 := StrsAt_drop rfl (HST.out.upd0 HU3.out) j hPle
                have hdl : (D.drop j).length = D.length - j := List.length_drop
                have e1 : (D.take j ++ [f.row] ++ D.drop j).length = j + 1 + (D.length - j) := by simp only [List.length_append, List.length_singleton, htl, hdl]
                have e2 : (D.take j ++ [f.row] ++ D.drop j).map Value.string = List.take j (D.map .string) ++ .string f.row :: List.drop j (D.map .string) := by simp [List.map_take, List.map_drop]
                have HE1 := Lib.hid e1
                have HE2 := Lib.hid e2
                clear e1 e2
                by_cases hdj : dc = j
                · subst hdj
                  rw [if_pos rfl, Nat.sub_self, show D.length - dc = 0 from by omega] at hdr0
                  have HDR := Lib.hid hdr0
                  clear hdr0
                  go_upto_region 14 with fail
                  go_wp2_with (at_builtin; refine wpList_append_row rfl _ _ 52 rfl wr.heap.size 9 i0 (.string ⟨#[]⟩) 1 16 Try.underlying52 hi0 hz0 hz1 hz2 rfl (by decide) _ _ _ rfl HO3.out _ _ _ rfl HDR.out ?d2 ?d3 ?d4 ?d5 ?_)
                  case d2 => first | exact strs_one _ | (intro u hu; exact strs_one D u (List.mem_of_mem_drop hu))
                  case d3 => unfold maxLen; omega
                  case d4 => omega
                  case d5 => omega
                  intro v3 w3 own3 gr3
                  have HU4 := Lib.hid (HU3.out.of_grown gr3 (fun j hj hj2 => by have := (owns_lt HO3.out hj).1; omega))
                  have HO4 : Hid (w3.ownsRow wr.heap.size 9 1 v3 (D.take dc ++ [f.row] ++ D.drop dc).length ((D.take dc ++ [f.row] ++ D.drop dc).map .string)) := Lib.hid (by
                    rw [HE1.out, HE2.out, show D.length - dc = 0 from by omega]
                    exact own3)
                  clear own3 gr3
                  go_wp2_with fail
                  exact ⟨⟨k + 1, by go_num, by omega, (by rw [HT.out, HB.out, if_pos rfl, HI.out]; exact StrsAt.of_own HO4.out), HUV.out.trans HU4.out (fun _ _ f => f)⟩, by simp [intOf]; omega⟩
                · rw [if_neg hdj] at hdr0
                  have HDR := Lib.hid hdr0
                  clear hdr0
                  go_upto_region 14 with fail
                  go_wp2_with (at_builtin; refine wpList_append_row rfl _ _ 52 rfl wr.heap.size 9 i0 (.string ⟨#[]⟩) 1 16 Try.underlying52 hi0 hz0 hz1 hz2 rfl (by decide) _ _ _ rfl HO3.out _ _ _ rfl HDR.out ?f2 ?f3 ?f4 ?f5 ?_)
                  case f2 => first | exact strs_one _ | (intro u hu; exact strs_one D u (List.mem_of_mem_drop hu))
                  case f3 => unfold maxLen; omega
                  case f4 => omega
                  case f5 => omega
                  intro v3 w3 own3 gr3
                  have HU4 := Lib.hid (HU3.out.of_grown gr3 (fun j hj hj2 => by have := (owns_lt HO3.out hj).1; omega))
                  have HO4 : Hid (w3.ownsRow wr.heap.size 9 1 v3 (D.take j ++ [f.row] ++ D.drop j).length ((D.take j ++ [f.row] ++ D.drop j).map .string)) := Lib.hid (by
                    rw [HE1.out, HE2.out]
                    exact own3)
                  clear own3 gr3
                  go_wp2_with fail
                  exact ⟨⟨k + 1, by go_num, by omega, (by rw [HT.out, HB.out, if_pos rfl, HI.out]; exact StrsAt.of_own HO4.out), HUV.out.trans HU4.out (fun _ _ f => f)⟩, by simp [intOf]; omega⟩
        · obtain ⟨da, dc, eu6⟩ := HST.out.slice
          subst eu6
          obtain ⟨_, hdc1, hdc2⟩ := strs_fits HST.out
          obtain ⟨P, hP⟩ : ∃ P, posB D f.row = P := ⟨_, rfl⟩
          have hPle := posB_le D f.row
          have hPlt := posB_lt D f.row
          have hPge := posB_ge D f.row
          have hins : insD D f.row = if D[posB D f.row]? = some f.row then D else D.take (posB D f.row) ++ [f.row] ++ D.drop (posB D f.row) := rfl
          rw [hP] at hPle hPlt hPge hins
          have HPL := Lib.hid hPlt
          have HPG := Lib.hid hPge
          have HINS := Lib.hid hins
          clear hPlt hPge hins hP
          go_upto_region 7 with fail
          go_wp2_with fail
          go_loop [9] (fun i => ∃ j : Nat, i = .int .i64 j ∧ j ≤ P) (fun i => P - (intOf i).toNat)
          case atStart => exact ⟨0, rfl, by omega⟩
          case round =>
            obtain ⟨j, rfl, hj⟩ := hrel
            have hj0 : (0 : Int) ≤ (j : Int) := by omega
            by_cases hjP : j < P
            · have hjl : j < D.length := by omega
              have hjli : (j : Int) < (D.length : Int) := by omega
              obtain ⟨g2, o2, rfl, d0⟩ := HST.out.cell hjl
              have hless : Op.bytesLess D[j].toList f.row.toList = true := HPL.out j hjl hjP
              generalize D[j] = x at *
              go_wp2_with fail
              exact ⟨⟨j + 1, by go_num, by omega⟩, by simp [intOf]; omega⟩
            · obtain rfl : j = P := by omega
              by_cases hjl : j < D.length
              · have hjli : (j : Int) < (D.length : Int) := by omega
                obtain ⟨g2, o2, rfl, d0⟩ := HST.out.cell hjl
                have hless : Op.bytesLess D[j].toList f.row.toList = false := HPG.out j hjl rfl
                have hins : insD D f.row = if D[j]? = some f.row then D else D.take j ++ [f.row] ++ D.drop j := HINS.out
                rw [List.getElem?_eq_getElem hjl] at hins
                generalize D[j] = x at *
                by_cases hxe : x = f.row
                · subst hxe
                  rw [if_pos rfl] at hins
                  have HI := Lib.hid hins
                  clear hins
                  go_wp2_with fail
                  exact ⟨⟨k + 1, by go_num, by omega, (by rw [HT.out, HB.out, if_pos rfl, HI.out]; exact HST.out), HUV.out⟩, by simp [intOf]; omega⟩
                · rw [if_neg (by simpa using hxe)] at hins
                  have HI := Lib.hid hins
                  have hxn := str_ne hxe
                  have hxn2 : x.toList ≠ f.row.toList := by simpa using hxn
                  clear hins hxe
                  go_upto_region 12 with fail
                  have HTK := Lib.hid (StrsAt_take rfl HST.out j hPle)
                  have htl : (D.take j).length = j := by rw [List.length_take]; omega
                  go_wp2_with (at_builtin; refine wpList_append_row rfl _ _ 52 rfl wr.heap.size 9 i0 (.string ⟨#[]⟩) 1 16 Try.underlying52 hi0 hz0 hz1 hz2 rfl (by decide) _ _ _ rfl (World.ownsRow_nil _ _ _ _) _ _ _ rfl HTK.out ?a2 ?a3 ?a4 ?a5 ?_)
                  case a2 => intro u hu; exact strs_one D u (List.mem_of_mem_take hu)
                  case a3 => unfold maxLen; omega
                  case a4 => omega
                  intro v1 w1 own1 gr1
                  have hu1 : Upd (fun _ => False) wr w1 := (Upd.refl _ wr).of_grown gr1 (fun j hj _ => by cases hj)
                  have HO1 := Lib.hid own1
                  have HU1 := Lib.hid hu1
                  have hs1 := hu1.size
                  clear own1 gr1 hu1
                  go_upto_region 13 with fail
                  have hu2 : Upd (fun _ => False) w1 (w1.alloc (.cells #[.string f.row] 9)) := (Upd.refl _ w1).alloc _
                  have HO2 := Lib.hid (owns_upd HO1.out hu2 (fun _ _ f => f))
                  have HS2 := Lib.hid (strs_alloc (w := w1) (t := 9) [f.row] (by simp))
                  have HU2 := Lib.hid (HU1.out.trans hu2 (fun _ _ f => f))
                  clear hu2
                  go_wp2_with (at_builtin; refine wpList_append_row rfl _ _ 52 rfl wr.heap.size 9 i0 (.string ⟨#[]⟩) 1 16 Try.underlying52 hi0 hz0 hz1 hz2 rfl (by decide) _ _ _ rfl HO2.out _ 1 [.string f.row] rfl HS2.out ?b2 ?b3 ?b4 ?b5 ?_)
                  case b2 => intro z hz; simp at hz; subst hz; rfl
                  case b3 => unfold maxLen; omega
                  case b4 => omega
                  case b5 => simp; omega
                  intro v2 w2 own2 gr2
                  have HU3 := Lib.hid (HU2.out.of_grown gr2 (fun j hj hj2 => by have := (owns_lt HO2.out hj).1; omega))
                  have HO3 := Lib.hid own2
                  clear own2 gr2
                  have hs3 := HU3.out.size
                  have hdr0 := StrsAt_drop rfl (HST.out.upd0 HU3.out) j hPle
                  have hdl : (D.drop j).length = D.length - j := List.length_drop
                  have e1 : (D.take j ++ [f.row] ++ D.drop j).length = j + 1 + (D.length - j) := by simp only [List.length_append, List.length_singleton, htl, hdl]
                  have e2 : (D.take j ++ [f.row] ++ D.drop j).map Value.string = List.take j (D.map .string) ++ .string f.row :: List.drop j (D.map .string) := by simp [List.map_take, List.map_drop]
                  have HE1 := Lib.hid e1
                  have HE2 := Lib.hid e2
                  clear e1 e2
                  have hdj : ¬ dc = j := by omega
                  rw [if_neg hdj, Option.map_some, none_add] at hdr0
                  have HDR := Lib.hid hdr0
                  clear hdr0
                  go_upto_region 14 with fail
                  go_wp2_with (at_builtin; refine wpList_append_row rfl _ _ 52 rfl wr.heap.size 9 i0 (.string ⟨#[]⟩) 1 16 Try.underlying52 hi0 hz0 hz1 hz2 rfl (by decide) _ _ _ rfl HO3.out _ _ _ rfl HDR.out ?f2 ?f3 ?f4 ?f5 ?_)
                  case f2 => first | exact strs_one _ | (intro u hu; exact strs_one D u (List.mem_of_mem_drop hu))
                  case f3 => unfold maxLen; omega
                  case f4 => omega
                  case f5 => omega
                  intro v3 w3 own3 gr3
                  have HU4 := Lib.hid (HU3.out.of_grown gr3 (fun j hj hj2 => by have := (owns_lt HO3.out hj).1; omega))
                  have HO4 : Hid (w3.ownsRow wr.heap.size 9 1 v3 (D.take j ++ [f.row] ++ D.drop j).length ((D.take j ++ [f.row] ++ D.drop j).map .string)) := Lib.hid (by
                    rw [HE1.out, HE2.out]
                    exact own3)
                  clear own3 gr3
                  go_wp2_with fail
                  exact ⟨⟨k + 1, by go_num, by omega, (by rw [HT.out, HB.out, if_pos rfl, HI.out]; exact StrsAt.of_own HO4.out), HUV.out.trans HU4.out (fun _ _ f => f)⟩, by simp [intOf]; omega⟩
              · have hjeq : j = D.length := by omega
                have hjli : ¬ (j : Int) < (D.length : Int) := by omega
                have hins : insD D f.row = if D[j]? = some f.row then D else D.take j ++ [f.row] ++ D.drop j := HINS.out
                rw [List.getElem?_eq_none (by omega), if_neg (by simp)] at hins
                have HI := Lib.hid hins
                have HJE := Lib.hid hjeq
                clear hins hjeq
                go_upto_region 12 with fail
                have HTK := Lib.hid (StrsAt_take rfl HST.out j hPle)
                have htl : (D.take j).length = j := by rw [List.length_take]; omega
                go_wp2_with (at_builtin; refine wpList_append_row rfl _ _ 52 rfl wr.heap.size 9 i0 (.string ⟨#[]⟩) 1 16 Try.underlying52 hi0 hz0 hz1 hz2 rfl (by decide) _ _ _ rfl (World.ownsRow_nil _ _ _ _) _ _ _ rfl HTK.out ?a2 ?a3 ?a4 ?a5 ?_)
                case a2 => intro u hu; exact strs_one D u (List.mem_of_mem_take hu)
                case a3 => unfold maxLen; omega
                case a4 => omega
                intro v1 w1 own1 gr1
                have hu1 : Upd (fun _ => False) wr w1 := (Upd.refl _ wr).of_grown gr1 (fun j hj _ => by cases hj)
                have HO1 := Lib.hid own1
                have HU1 := Lib.hid hu1
                have hs1 := hu1.size
                clear own1 gr1 hu1
                go_upto_region 13 with fail
                have hu2 : Upd (fun _ => False) w1 (w1.alloc (.cells #[.string f.row] 9)) := (Upd.refl _ w1).alloc _
                have HO2 := Lib.hid (owns_upd HO1.out hu2 (fun _ _ f => f))
                have HS2 := Lib.hid (strs_alloc (w := w1) (t := 9) [f.row] (by simp))
                have HU2 := Lib.hid (HU1.out.trans hu2 (fun _ _ f => f))
                clear hu2
                go_wp2_with (at_builtin; refine wpList_append_row rfl _ _ 52 rfl wr.heap.size 9 i0 (.string ⟨#[]⟩) 1 16 Try.underlying52 hi0 hz0 hz1 hz2 rfl (by decide) _ _ _ rfl HO2.out _ 1 [.string f.row] rfl HS2.out ?b2 ?b3 ?b4 ?b5 ?_)
                case b2 => intro z hz; simp at hz; subst hz; rfl
                case b3 => unfold maxLen; omega
                case b4 => omega
                case b5 => simp; omega
                intro v2 w2 own2 gr2
                have HU3 := Lib.hid (HU2.out.of_grown gr2 (fun j hj hj2 => by have := (owns_lt HO2.out hj).1; omega))
                have HO3 := Lib.hid own2
                clear own2 gr2
                have hs3 := HU3.out.size
                have hdr0 := StrsAt_drop rfl (HST.out.upd0 HU3.out) j hPle
                have hdl : (D.drop j).length = D.length - j := List.length_drop
                have e1 : (D.take j ++ [f.row] ++ D.drop j).length = j + 1 + (D.length - j) := by simp only [List.length_append, List.length_singleton, htl, hdl]
                have e2 : (D.take j ++ [f.row] ++ D.drop j).map Value.string = List.take j (D.map .string) ++ .string f.row :: List.drop j (D.map .string) := by simp [List.map_take, List.map_drop]
                have HE1 := Lib.hid e1
                have HE2 := Lib.hid e2
                clear e1 e2
                by_cases hdj : dc = j
                · subst hdj
                  rw [if_pos rfl, Nat.sub_self, show D.length - dc = 0 from by omega] at hdr0
                  have HDR := Lib.hid hdr0
                  clear hdr0
                  go_upto_region 14 with fail
                  go_wp2_with (at_builtin; refine wpList_append_row rfl _ _ 52 rfl wr.heap.size 9 i0 (.string ⟨#[]⟩) 1 16 Try.underlying52 hi0 hz0 hz1 hz2 rfl (by decide) _ _ _ rfl HO3.out _ _ _ rfl HDR.out ?d2 ?d3 ?d4 ?d5 ?_)
                  case d2 => first | exact strs_one _ | (intro u hu; exact strs_one D u (List.mem_of_mem_drop hu))
                  case d3 => unfold maxLen; omega
                  case d4 => omega
                  case d5 => omega
                  intro v3 w3 own3 gr3
                  have HU4 := Lib.hid (HU3.out.of_grown gr3 (fun j hj hj2 => by have := (owns_lt HO3.out hj).1; omega))
                  have HO4 : Hid (w3.ownsRow wr.heap.size 9 1 v3 (D.take dc ++ [f.row] ++ D.drop dc).length ((D.take dc ++ [f.row] ++ D.drop dc).map .string)) := Lib.hid (by
                    rw [HE1.out, HE2.out, show D.length - dc = 0 from by omega]
                    exact own3)
                  clear own3 gr3
                  go_wp2_with fail
                  exact ⟨⟨k + 1, by go_num, by omega, (by rw [HT.out, HB.out, if_pos rfl, HI.out]; exact StrsAt.of_own HO4.out), HUV.out.trans HU4.out (fun _ _ f => f)⟩, by simp [intOf]; omega⟩
                · rw [if_neg hdj] at hdr0
                  have HDR := Lib.hid hdr0
                  clear hdr0
                  go_upto_region 14 with fail
                  go_wp2_with (at_builtin; refine wpList_append_row rfl _ _ 52 rfl wr.heap.size 9 i0 (.string ⟨#[]⟩) 1 16 Try.underlying52 hi0 hz0 hz1 hz2 rfl (by decide) _ _ _ rfl HO3.out _ _ _ rfl HDR.out ?f2 ?f3 ?f4 ?f5 ?_)
                  case f2 => first | exact strs_one _ | (intro u hu; exact strs_one D u (List.mem_of_mem_drop hu))
                  case f3 => unfold maxLen; omega
                  case f4 => omega
                  case f5 => omega
                  intro v3 w3 own3 gr3
                  have HU4 := Lib.hid (HU3.out.of_grown gr3 (fun j hj hj2 => by have := (owns_lt HO3.out hj).1; omega))
                  have HO4 : Hid (w3.ownsRow wr.heap.size 9 1 v3 (D.take j ++ [f.row] ++ D.drop j).length ((D.take j ++ [f.row] ++ D.drop j).map .string)) := Lib.hid (by
                    rw [HE1.out, HE2.out]
                    exact own3)
                  clear own3 gr3
                  go_wp2_with fail
                  exact ⟨⟨k + 1, by go_num, by omega, (by rw [HT.out, HB.out, if_pos rfl, HI.out]; exact StrsAt.of_own HO4.out), HUV.out.trans HU4.out (fun _ _ f => f)⟩, by simp [intOf]; omega⟩
        · go_wp2_with fail
          exact ⟨⟨k + 1, by go_num, by omega, (by rw [HT.out, HB.out, if_neg (by simp)]; exact HST.out), HUV.out⟩, by simp [intOf]; omega⟩
        · go_wp2_with fail
          exact ⟨⟨k + 1, by go_num, by omega, (by rw [HT.out, HB.out, if_neg (by simp)]; exact HST.out), HUV.out⟩, by simp [intOf]; omega⟩
        · go_wp2_with fail
          exact ⟨⟨k + 1, by go_num, by omega, (by rw [HT.out, HB.out, if_neg (by simp)]; exact HST.out), HUV.out⟩, by simp [intOf]; omega⟩
      · have hlti : ¬ (k : Int) < (n : Int) := by omega
        obtain rfl : k = n := by omega
        have e : rowsOf lo hi (l.take k) = rowsOf lo hi l := by rw [HN.out, List.take_length]
        rw [e] at ho
        have HO := Lib.hid ho
        clear ho e
        go_wp2_with fail
        go_meet
        case rel => exact ⟨HO.out, hu⟩
  case rest =>
    obtain ⟨ho, hu⟩ := hcut
    have hrl := rD_len (rowsOf lo hi l)
    have hrl2 := rowsOf_len lo hi l
    have hD3 : (rD (rowsOf lo hi l)).length ≤ 300 := by have := HN.out; omega
    clear hrl hrl2
    generalize rD (rowsOf lo hi l) = D at *
    obtain ⟨da, dc, eu6⟩ := ho.slice
    subst eu6
    have HUF := Lib.hid (HU.out.trans hu (fun _ _ f => f))
    have HST := Lib.hid ho
    obtain ⟨p0, p1, _, _⟩ := box2 (hu.keep HX.out (fun f => f))
    clear ho hu
    by_cases h2 : 2 ≤ D.length
    · have hlt2 : D.length / 2 < D.length := by omega
      obtain ⟨g', o', e', cD⟩ := HST.out.cell hlt2
      subst e'
      have hge : (2 : Int) ≤ (D.length : Int) := by omega
      have hda : decide ((D.length : Int) < 2) = false := by simp; omega
      have hdb : decide (D.length < 2) = false := by simp; omega
      have hdc : ¬ (D.length : Int) < 2 := by omega
      have hgd : D.getD (D.length / 2) ⟨#[]⟩ = D[D.length / 2] := by simp [hlt2]
      have q1 : (D.length : Int).tdiv 2 = ((D.length / 2 : Nat) : Int) := by
        rw [Int.tdiv_eq_ediv_of_nonneg (by omega)]
        omega
      have hm : midR lo D = if D[D.length / 2] ≠ lo then (D[D.length / 2], true) else (⟨#[]⟩, false) := by
        unfold midR
        rw [hgd]
        simp only [h2, true_and]
      have hhi : (D.length / 2 : Nat) < D.length := hlt2
      have hhj : ((D.length / 2 : Nat) : Int) < (D.length : Int) := by omega
      have hhk : (0 : Int) ≤ ((D.length / 2 : Nat) : Int) := by omega
      generalize D[D.length / 2] = md at *
      have q2 : (D.length : Int) / 2 = ((D.length / 2 : Nat) : Int) := by omega
      generalize D.length / 2 = mi at *
      by_cases hml : md = lo
      · subst hml
        rw [if_neg (by simp)] at hm
        have HM := Lib.hid hm
        clear hm hgd
        go_upto_region 15 with fail
        go_quiet (fail)
        go_wp2_with fail
        go_ret2
        rw [HM.out]
        exact ⟨rfl, HUF.out.drewN _⟩
      · rw [if_pos hml] at hm
        have HM := Lib.hid hm
        have hne2 : (md.toList == lo.toList) = false := by
          rw [beq_eq_false_iff_ne]
          intro e
          rw [ByteArray.toList_eq, ByteArray.toList_eq] at e
          exact hml (by
            cases md
            cases lo
            simp only at e
            rw [Array.toList_inj] at e
            rw [e])
        have hne3 : md.toList ≠ lo.toList := by simpa using hne2
        clear hm hgd hml
        go_upto_region 15 with fail
        go_quiet (fail)
        go_wp2_with fail
        go_ret2
        rw [HM.out]
        exact ⟨rfl, HUF.out.drewN _⟩
    · have hge : ¬ (2 : Int) ≤ (D.length : Int) := by omega
      have hm : midR lo D = (⟨#[]⟩, false) := by
        unfold midR
        rw [if_neg (fun h => h2 h.1)]
      have HM := Lib.hid hm
      have hd1 : decide ((2 : Int) ≤ (D.length : Int)) = false := by simp; omega
      have hd2 : decide (2 ≤ D.length) = false := by simp; omega
      have hd3 : (D.length : Int) < 2 := by omega
      have hd4 : decide ((D.length : Int) < 2) = true := by simp; omega
      have hd5 : decide (D.length < 2) = true := by simp; omega
      clear hm
      go_upto_region 15 with fail
      go_quiet (fail)
      go_wp2_with fail
      go_ret2
      rw [HM.out]
      exact ⟨rfl, HUF.out.drewN _⟩
end Go.Proofs.Ytkkickalleelkaa
