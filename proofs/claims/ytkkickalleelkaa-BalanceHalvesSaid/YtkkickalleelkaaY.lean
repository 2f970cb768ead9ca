/- The walk of BalanceHalves. -/
import Derived.Test.YtkkickalleelkaaW
import Derived.Test.YtkkickalleelkaaX
namespace Go.Proofs.Ytkkickalleelkaa
open Go.RowKit Go.Acre
theorem mid_key (lo hi : ByteArray) (l : List Ce) : (∃ s, midR lo (rD (rowsOf lo hi l)) = (s, true) ∧ 2 ≤ (rD (rowsOf lo hi l)).length ∧ (rD (rowsOf lo hi l)).getD ((rD (rowsOf lo hi l)).length / 2) ⟨#[]⟩ = s ∧ s.size ≤ 24 ∧ hasB lo hi s = true ∧ leB s lo = false) ∨ midR lo (rD (rowsOf lo hi l)) = (⟨#[]⟩, false) := by
  by_cases h : 2 ≤ (rD (rowsOf lo hi l)).length ∧ (rD (rowsOf lo hi l)).getD ((rD (rowsOf lo hi l)).length / 2) ⟨#[]⟩ ≠ lo
  · refine .inl ⟨_, by unfold midR; rw [if_pos h], h.1, rfl, ?_⟩
    have hm := middle_in h.1
    have hne := h.2
    generalize (rD (rowsOf lo hi l)).getD ((rD (rowsOf lo hi l)).length / 2) ⟨#[]⟩ = s at *
    unfold rowsOf at hm
    obtain ⟨f, hf, rfl⟩ := List.mem_map.1 hm
    have hb := (List.mem_filter.1 hf).2
    unfold inB at hb
    rw [Bool.and_eq_true] at hb
    obtain ⟨hu, hh⟩ := hb
    unfold userB at hu
    have hu2 := of_decide_eq_true hu
    refine ⟨hu2.2, hh, le_of_not _ _ ?_ hne⟩
    unfold hasB at hh
    simp only [Bool.and_eq_true, Bool.not_eq_true'] at hh
    exact hh.1
  · exact .inr (by unfold midR; rw [if_neg h])
theorem apart_of {w : World} {base : Nat} {v v' : Value} {L R : List ByteArray} (h : w.ownsRow base 9 1 v L.length (L.map .string)) (h' : w.ownsRow base 9 1 v' R.length (R.map .string)) (hl : L = [] → v = .slice none 0 0) (hr : R = [] → v' = .slice none 0 0) (hd : ∀ k ∈ L, k ∉ R) :
    ∀ g, v.ownBlock = some g → v'.ownBlock ≠ some g := by
  intro g hg hg'
  cases L with
  | nil => rw [hl rfl] at hg; cases hg
  | cons x L =>
    cases R with
    | nil => rw [hr rfl] at hg'; cases hg'
    | cons y R =>
      have h1 := h.cells hg 0 (.string x) (by simp)
      have h2 := h'.cells hg' 0 (.string y) (by simp)
      rw [h1] at h2
      simp only [Option.some.injEq, Value.string.injEq] at h2
      exact hd x List.mem_cons_self (by rw [h2]; exact List.mem_cons_self)
def HalfAt (w : World) (base : Nat) (s : ByteArray) (rows : List ByteArray) (v v' : Value) (L R : List ByteArray) : Prop :=
  w.ownsRow base 9 1 v L.length (L.map .string) ∧ w.ownsRow base 9 1 v' R.length (R.map .string) ∧ (L = [] → v = .slice none 0 0) ∧ (R = [] → v' = .slice none 0 0) ∧ Half (fun k => ltB k s) rows L ∧ Half (fun k => !ltB k s) rows R
theorem HalfAt.nil (w : World) (base : Nat) (s : ByteArray) : HalfAt w base s [] (.slice none 0 0) (.slice none 0 0) [] [] :=
  ⟨World.ownsRow_nil _ _ _ _, World.ownsRow_nil _ _ _ _, fun _ => rfl, fun _ => rfl, Half.nil _, Half.nil _⟩
theorem HalfAt.apart {w : World} {base : Nat} {s : ByteArray} {rows : List ByteArray} {v v' : Value} {L R : List ByteArray} (h : HalfAt w base s rows v v' L R) : ∀ g, v.ownBlock = some g → v'.ownBlock ≠ some g := by
  obtain ⟨h1, h2, h3, h4, h5, h6⟩ := h
  refine apart_of h1 h2 h3 h4 (fun k hk hk2 => ?_)
  have a1 := ((h5.2 k).1 hk).2
  have a2 := ((h6.2 k).1 hk2).2
  simp only at a1 a2
  rw [a1] at a2
  cases a2
def memB (L : List ByteArray) (k : ByteArray) : Bool := L.any fun x => x.toList == k.toList
theorem mem_step (L : List ByteArray) (k : ByteArray) {j : Nat} (hj : j < L.length) : memB (L.take (j + 1)) k = (memB (L.take j) k || (L[j].toList == k.toList)) := by
  unfold memB
  rw [List.take_succ_eq_append_getElem hj, List.any_append]
  simp
theorem memB_iff (L : List ByteArray) (k : ByteArray) : memB L k = true ↔ k ∈ L := by
  unfold memB
  simp only [List.any_eq_true, beq_iff_eq, ByteArray.toList_eq]
  constructor
  · rintro ⟨x, hx, h⟩
    rwa [← key_inj h]
  · intro h
    exact ⟨k, h, rfl⟩
theorem kept_of {v v' : Value} (h : ∀ g, v.ownBlock = some g → v'.ownBlock ≠ some g) : (v'.ownBlock = none ∨ v'.ownBlock ≠ v.ownBlock) ∧ (v.ownBlock = none ∨ v.ownBlock ≠ v'.ownBlock) := by
  cases e : v.ownBlock with
  | none =>
    refine ⟨?_, .inl rfl⟩
    cases e' : v'.ownBlock with
    | none => exact .inl rfl
    | some g => exact .inr (by simp)
  | some g => exact ⟨.inr (h g e), .inr (fun e2 => h g e e2.symm)⟩
set_option maxHeartbeats 2000000 in
set_option maxRecDepth 100000 in
theorem halves_any {w : World} {a : Option Addr} {n cap : Nat} {l : List Ce} (hl : CellsIn w a n cap l) (lo hi : ByteArray) (hlo : lo.size ≤ 9223372036854775807) (hhi : hi.size ≤ 9223372036854775807) :
    Calls Try.prog 5 #[.slice a n cap, .agg #[.string lo, .string hi]] w (PureUpd (.bool true) w) := by
  obtain ⟨hn, hc, hok⟩ := hl
  obtain ⟨i0, hi0, hz0, hz1, hz2⟩ := info_parts info9
  have hu0 : Upd (fun _ => False) w (w.alloc (.cells #[.string lo, .string hi] 24)) := (Upd.refl _ w).alloc _
  have hx := heap_alloc (w := w) (.cells #[.string lo, .string hi] 24)
  obtain ⟨m, hm⟩ : ∃ m : Nat, min (n : Int) 300 = (m : Int) := ⟨min n 300, by omega⟩
  have hmn : m ≤ n := by omega
  have hm300 : m ≤ 300 := by omega
  have hcap := hc.fits.2.1
  have hmc : (m : Int) ≤ (cap : Int) := by omega
  have hm0 : (0 : Int) ≤ (m : Int) := by omega
  have HC := Lib.hid ((hc.take m hmn).upd0 hu0)
  have HOK : Hid (∀ f ∈ l.take m, CeOk f) := Lib.hid (fun f hf => hok f (List.mem_of_mem_take hf))
  have HU := Lib.hid hu0
  have HX := Lib.hid hx
  have HLM : Hid (m = (l.take m).length) := Lib.hid (by rw [List.length_take]; omega)
  clear hc hok hu0 hx hn
  generalize l.take m = lm at *
  go_enter Try.func5, Try.ntmps5
  go_upto_region 1 with fail
  generalize w.alloc (.cells #[.string lo, .string hi] 24) = wb at *
  generalize w.heap.size = xb at *
  go_wp2_with fail
  refine (works_any _).mono ?_
  rintro e w1 ⟨rfl, hu1⟩
  have HU1 := Lib.hid hu1
  clear hu1
  go_upto_region 4 with fail
  obtain ⟨p0, p1, _, _⟩ := box2 (HU1.out.keep HX.out (fun f => f))
  go_wp2_with fail
  refine (middle_any (HC.out.upd0 HU1.out) HOK.out hm300 lo hi).mono ?_
  rintro e w2 ⟨rfl, hu2⟩
  rw [dist_eq]
  have HU2 := Lib.hid (HU1.out.trans hu2 (fun _ _ f => f))
  clear hu2 p0 p1 HU1
  have hmid := mid_key lo hi lm
  have HM := Lib.hid (show midR lo (rD (rowsOf lo hi lm)) = midR lo (rD (rowsOf lo hi lm)) from rfl)
  generalize midR lo (rD (rowsOf lo hi lm)) = r at *
  rcases hmid with ⟨s, rfl, hD, hs, hs24, hhas, hle⟩ | rfl
  rotate_left
  · go_wp2_with fail
    go_ret
    exact ⟨rfl, HU.out.trans HU2.out (fun _ _ f => f)⟩
  have HD := Lib.hid hD
  have HS := Lib.hid hs
  have HSH := Lib.hid hhas
  have HSL := Lib.hid hle
  clear hD hs hhas hle HM
  have HCW := Lib.hid (HC.out.upd0 HU2.out)
  have HXW := Lib.hid (HU2.out.keep HX.out (fun f => f))
  have HUW := Lib.hid (HU.out.trans HU2.out (fun _ _ f => f))
  clear HC HX HU2 HU
  go_upto_block 0 with fail
  go_cut [7, 8, 9] (fun s7 s8 s9 wx => ∃ L R, L.length ≤ m ∧ HalfAt wx w2.heap.size s (rowsOf lo hi lm) s7 s8 L R ∧ Upd (fun _ => False) w2 wx)
  case first =>
    go_wp2_with fail
    go_loopw [7, 8, 9] (fun s7 s8 i wr => ∃ (k : Nat) (L R : List ByteArray), i = .int .i64 k ∧ k ≤ m ∧ L.length ≤ k ∧ R.length ≤ k ∧ HalfAt wr w2.heap.size s (rowsOf lo hi (lm.take k)) s7 s8 L R ∧ Upd (fun _ => False) w2 wr) (fun _ _ i _ => m - (intOf i).toNat)
    case atStart => exact ⟨0, [], [], rfl, by omega, by simp, by simp, HalfAt.nil _ _ _, Upd.refl _ _⟩
    case round =>
      obtain ⟨k, L, R, rfl, hk, hLk, hRk, hh, hu⟩ := hrel
      by_cases hlt : k < m
      · have hlti : (k : Int) < (m : Int) := by omega
        have hk0 : (0 : Int) ≤ (k : Int) := by omega
        have hkl : k < lm.length := by rw [← HLM.out]; exact hlt
        obtain ⟨g, o, rfl, c0, _, _, _, _⟩ := (HCW.out.upd0 hu).cell hkl
        have HT := Lib.hid (rowsOf_take lo hi lm hkl)
        obtain ⟨z0, _, _, _⟩ := HOK.out lm[k] (List.getElem_mem hkl)
        obtain ⟨p0, p1, _, _⟩ := box2 (hu.keep HXW.out (fun f => f))
        have HH := Lib.hid hh
        have HUV := Lib.hid hu
        have hkey := in_key lo hi lm[k].row
        have HUS : Hid (∀ w', Calls Try.prog 18 #[.string lm[k].row] w' (BoolPost (userB lm[k].row) w')) := Lib.hid (fun w' => user_any _ w' (by omega))
        clear hh hu
        generalize lm[k] = f at *
        generalize rowsOf lo hi (lm.take k) = rows at *
        go_upto_region 12 with fail
        clear c0
        rcases hkey with ⟨hb, hus, hlo2, he⟩ | ⟨hb, hus, hlo2, he, hhi2⟩ | ⟨hb, hus⟩ | ⟨hb, hus, hlo2⟩ | ⟨hb, hus, hlo2, he, hhi2⟩
        all_goals
          rw [hus] at HUS
          have HB := Lib.hid hb
          clear hb hus
        all_goals
          go_wp2_with fail
          refine (HUS.out _).mono ?_
          rintro e w' ⟨rfl, rfl⟩
        · obtain ⟨hol, hor, hl0, hr0, hL, hR⟩ := HH.out
          have hap := HH.out.apart
          have hSL : StrsAt wr _ L := RowAt.of_own hol
          have hSR : StrsAt wr _ R := RowAt.of_own hor
          have HOL := Lib.hid hol
          have HOR := Lib.hid hor
          have HHL := Lib.hid hL
          have HHR := Lib.hid hR
          have HL0 := Lib.hid hl0
          have HR0 := Lib.hid hr0
          have HSL2 := Lib.hid hSL
          have HSR2 := Lib.hid hSR
          have HAP := Lib.hid hap
          clear hol hor hl0 hr0 hL hR hap hSL hSR HH
          cases hlt2 : ltB f.row s with
          | true =>
            have hlt3 := hlt2
            unfold ltB at hlt3
            obtain ⟨la, lc, hv⟩ := HSL2.out.slice
            subst hv
            go_wp2_with fail
            go_loopw [12, 13] (fun fd x wi => ∃ j : Nat, x = .int .i64 j ∧ j ≤ L.length ∧ fd = .bool (memB (L.take j) f.row) ∧ wi = wr) (fun _ x _ => L.length - (intOf x).toNat)
            case atStart => exact ⟨0, rfl, by omega, by simp [memB], by trivial⟩
            case round =>
              obtain ⟨j, rfl, hj, rfl, rfl⟩ := hrel
              by_cases hjl : j < L.length
              · have hjl2 : (j : Int) < (L.length : Int) := by omega
                have hj0 : (0 : Int) ≤ (j : Int) := by omega
                obtain ⟨g2, o2, rfl, d0⟩ := HSL2.out.cell hjl
                have hmk := mem_step L f.row hjl
                cases hfd : memB (L.take j) f.row
                · rw [hfd, Bool.false_or] at hmk
                  go_wp2_with fail
                  exact ⟨⟨j + 1, by go_num, by omega, by rw [hmk], by trivial⟩, by simp [intOf]; omega⟩
                · rw [hfd, Bool.true_or] at hmk
                  go_wp2_with fail
                  exact ⟨⟨j + 1, by go_num, by omega, by rw [hmk], by trivial⟩, by simp [intOf]; omega⟩
              · have hjl2 : ¬ (j : Int) < (L.length : Int) := by omega
                obtain rfl : j = L.length := by omega
                rw [List.take_length]
                cases hmem : memB L f.row
                rotate_left
                · have HMEM := Lib.hid ((memB_iff _ _).1 hmem)
                  go_wp2_with fail
                  exact ⟨⟨k + 1, L, R, by go_num, by omega, by omega, by omega, (by
                    rw [HT.out, HB.out, if_pos rfl]
                    exact ⟨HOL.out, HOR.out, HL0.out, HR0.out, HHL.out.stay (fun _ => HMEM.out), HHR.out.stay (fun h => by simp only [hlt2] at h; exact absurd h (by simp))⟩), HUV.out⟩, by simp [intOf]; omega⟩
                · have HMEM := Lib.hid (show f.row ∉ L from fun h => by rw [(memB_iff _ _).2 h] at hmem; cases hmem)
                  go_upto_region 22 with fail
                  have hsz := HUV.out.size
                  have hu2 : Upd (fun _ => False) wr (wr.alloc (.cells #[.string f.row] 9)) := (Upd.refl _ wr).alloc _
                  have HO2 := Lib.hid (owns_upd HOL.out hu2 (fun _ _ f => f))
                  have HY2 := Lib.hid (owns_upd HOR.out hu2 (fun _ _ f => f))
                  have HS2 := Lib.hid (strs_alloc (w := wr) (t := 9) [f.row] (by simp))
                  have HU2 := Lib.hid (HUV.out.trans hu2 (fun _ _ f => f))
                  clear hu2
                  go_wp2_with (at_builtin; refine wpList_append_row rfl _ _ 52 rfl w2.heap.size 9 i0 (.string ⟨#[]⟩) 1 16 Try.underlying52 hi0 hz0 hz1 hz2 rfl (by decide) _ _ _ rfl HO2.out _ 1 [.string f.row] rfl HS2.out ?c2 ?c3 ?c4 ?c5 ?_)
                  case c2 => first | rfl | (intro z hz; simp at hz; subst hz; rfl)
                  case c3 => unfold maxLen; omega
                  case c4 => omega
                  case c5 => first | omega | (simp; omega)
                  intro v2 w4 hown hg
                  have HUN := Lib.hid (HU2.out.of_grown hg (fun j hj hj2 => by have := (owns_lt HO2.out hj).1; omega))
                  have HOW2 := Lib.hid hown
                  have HOY2 := Lib.hid (HY2.out.kept hg (kept_of HAP.out).1)
                  clear hown hg
                  go_wp2_with fail
                  exact ⟨⟨k + 1, L ++ [f.row], R, by go_num, by omega, by first | omega | (simp; omega), by first | omega | (simp; omega), (by
                    rw [HT.out, HB.out, if_pos rfl]
                    exact ⟨(by rw [List.map_append, List.length_append]; exact HOW2.out), HOY2.out, (fun e => by simp at e), HR0.out, HHL.out.add (by simp only [hlt2]) HMEM.out, HHR.out.stay (fun h => by simp only [hlt2] at h; exact absurd h (by simp))⟩), HUN.out⟩, by simp [intOf]; omega⟩
          | false =>
            have hlt3 := hlt2
            unfold ltB at hlt3
            obtain ⟨la, lc, hv⟩ := HSR2.out.slice
            subst hv
            go_wp2_with fail
            go_loopw [12, 13] (fun fd x wi => ∃ j : Nat, x = .int .i64 j ∧ j ≤ R.length ∧ fd = .bool (memB (R.take j) f.row) ∧ wi = wr) (fun _ x _ => R.length - (intOf x).toNat)
            case atStart => exact ⟨0, rfl, by omega, by simp [memB], by trivial⟩
            case round =>
              obtain ⟨j, rfl, hj, rfl, rfl⟩ := hrel
              by_cases hjl : j < R.length
              · have hjl2 : (j : Int) < (R.length : Int) := by omega
                have hj0 : (0 : Int) ≤ (j : Int) := by omega
                obtain ⟨g2, o2, rfl, d0⟩ := HSR2.out.cell hjl
                have hmk := mem_step R f.row hjl
                cases hfd : memB (R.take j) f.row
                · rw [hfd, Bool.false_or] at hmk
                  go_wp2_with fail
                  exact ⟨⟨j + 1, by go_num, by omega, by rw [hmk], by trivial⟩, by simp [intOf]; omega⟩
                · rw [hfd, Bool.true_or] at hmk
                  go_wp2_with fail
                  exact ⟨⟨j + 1, by go_num, by omega, by rw [hmk], by trivial⟩, by simp [intOf]; omega⟩
              · have hjl2 : ¬ (j : Int) < (R.length : Int) := by omega
                obtain rfl : j = R.length := by omega
                rw [List.take_length]
                cases hmem : memB R f.row
                rotate_left
                · have HMEM := Lib.hid ((memB_iff _ _).1 hmem)
                  go_wp2_with fail
                  exact ⟨⟨k + 1, L, R, by go_num, by omega, by omega, by omega, (by
                    rw [HT.out, HB.out, if_pos rfl]
                    exact ⟨HOL.out, HOR.out, HL0.out, HR0.out, HHL.out.stay (fun h => by simp only [hlt2] at h; exact absurd h (by simp)), HHR.out.stay (fun _ => HMEM.out)⟩), HUV.out⟩, by simp [intOf]; omega⟩
                · have HMEM := Lib.hid (show f.row ∉ R from fun h => by rw [(memB_iff _ _).2 h] at hmem; cases hmem)
                  go_upto_region 24 with fail
                  have hsz := HUV.out.size
                  have hu2 : Upd (fun _ => False) wr (wr.alloc (.cells #[.string f.row] 9)) := (Upd.refl _ wr).alloc _
                  have HO2 := Lib.hid (owns_upd HOR.out hu2 (fun _ _ f => f))
                  have HY2 := Lib.hid (owns_upd HOL.out hu2 (fun _ _ f => f))
                  have HS2 := Lib.hid (strs_alloc (w := wr) (t := 9) [f.row] (by simp))
                  have HU2 := Lib.hid (HUV.out.trans hu2 (fun _ _ f => f))
                  clear hu2
                  go_wp2_with (at_builtin; refine wpList_append_row rfl _ _ 52 rfl w2.heap.size 9 i0 (.string ⟨#[]⟩) 1 16 Try.underlying52 hi0 hz0 hz1 hz2 rfl (by decide) _ _ _ rfl HO2.out _ 1 [.string f.row] rfl HS2.out ?c2 ?c3 ?c4 ?c5 ?_)
                  case c2 => first | rfl | (intro z hz; simp at hz; subst hz; rfl)
                  case c3 => unfold maxLen; omega
                  case c4 => omega
                  case c5 => first | omega | (simp; omega)
                  intro v2 w4 hown hg
                  have HUN := Lib.hid (HU2.out.of_grown hg (fun j hj hj2 => by have := (owns_lt HO2.out hj).1; omega))
                  have HOW2 := Lib.hid hown
                  have HOY2 := Lib.hid (HY2.out.kept hg (kept_of HAP.out).2)
                  clear hown hg
                  go_wp2_with fail
                  exact ⟨⟨k + 1, L, R ++ [f.row], by go_num, by omega, by first | omega | (simp; omega), by first | omega | (simp; omega), (by
                    rw [HT.out, HB.out, if_pos rfl]
                    exact ⟨HOY2.out, (by rw [List.map_append, List.length_append]; exact HOW2.out), HL0.out, (fun e => by simp at e), HHL.out.stay (fun h => by simp only [hlt2] at h; exact absurd h (by simp)), HHR.out.add (by simp only [hlt2]; rfl) HMEM.out⟩), HUN.out⟩, by simp [intOf]; omega⟩
        · obtain ⟨hol, hor, hl0, hr0, hL, hR⟩ := HH.out
          have hap := HH.out.apart
          have hSL : StrsAt wr _ L := RowAt.of_own hol
          have hSR : StrsAt wr _ R := RowAt.of_own hor
          have HOL := Lib.hid hol
          have HOR := Lib.hid hor
          have HHL := Lib.hid hL
          have HHR := Lib.hid hR
          have HL0 := Lib.hid hl0
          have HR0 := Lib.hid hr0
          have HSL2 := Lib.hid hSL
          have HSR2 := Lib.hid hSR
          have HAP := Lib.hid hap
          clear hol hor hl0 hr0 hL hR hap hSL hSR HH
          cases hlt2 : ltB f.row s with
          | true =>
            have hlt3 := hlt2
            unfold ltB at hlt3
            obtain ⟨la, lc, hv⟩ := HSL2.out.slice
            subst hv
            go_wp2_with fail
            go_loopw [12, 13] (fun fd x wi => ∃ j : Nat, x = .int .i64 j ∧ j ≤ L.length ∧ fd = .bool (memB (L.take j) f.row) ∧ wi = wr) (fun _ x _ => L.length - (intOf x).toNat)
            case atStart => exact ⟨0, rfl, by omega, by simp [memB], by trivial⟩
            case round =>
              obtain ⟨j, rfl, hj, rfl, rfl⟩ := hrel
              by_cases hjl : j < L.length
              · have hjl2 : (j : Int) < (L.length : Int) := by omega
                have hj0 : (0 : Int) ≤ (j : Int) := by omega
                obtain ⟨g2, o2, rfl, d0⟩ := HSL2.out.cell hjl
                have hmk := mem_step L f.row hjl
                cases hfd : memB (L.take j) f.row
                · rw [hfd, Bool.false_or] at hmk
                  go_wp2_with fail
                  exact ⟨⟨j + 1, by go_num, by omega, by rw [hmk], by trivial⟩, by simp [intOf]; omega⟩
                · rw [hfd, Bool.true_or] at hmk
                  go_wp2_with fail
                  exact ⟨⟨j + 1, by go_num, by omega, by rw [hmk], by trivial⟩, by simp [intOf]; omega⟩
              · have hjl2 : ¬ (j : Int) < (L.length : Int) := by omega
                obtain rfl : j = L.length := by omega
                rw [List.take_length]
                cases hmem : memB L f.row
                rotate_left
                · have HMEM := Lib.hid ((memB_iff _ _).1 hmem)
                  go_wp2_with fail
                  exact ⟨⟨k + 1, L, R, by go_num, by omega, by omega, by omega, (by
                    rw [HT.out, HB.out, if_pos rfl]
                    exact ⟨HOL.out, HOR.out, HL0.out, HR0.out, HHL.out.stay (fun _ => HMEM.out), HHR.out.stay (fun h => by simp only [hlt2] at h; exact absurd h (by simp))⟩), HUV.out⟩, by simp [intOf]; omega⟩
                · have HMEM := Lib.hid (show f.row ∉ L from fun h => by rw [(memB_iff _ _).2 h] at hmem; cases hmem)
                  go_upto_region 22 with fail
                  have hsz := HUV.out.size
                  have hu2 : Upd (fun _ => False) wr (wr.alloc (.cells #[.string f.row] 9)) := (Upd.refl _ wr).alloc _
                  have HO2 := Lib.hid (owns_upd HOL.out hu2 (fun _ _ f => f))
                  have HY2 := Lib.hid (owns_upd HOR.out hu2 (fun _ _ f => f))
                  have HS2 := Lib.hid (strs_alloc (w := wr) (t := 9) [f.row] (by simp))
                  have HU2 := Lib.hid (HUV.out.trans hu2 (fun _ _ f => f))
                  clear hu2
                  go_wp2_with (at_builtin; refine wpList_append_row rfl _ _ 52 rfl w2.heap.size 9 i0 (.string ⟨#[]⟩) 1 16 Try.underlying52 hi0 hz0 hz1 hz2 rfl (by decide) _ _ _ rfl HO2.out _ 1 [.string f.row] rfl HS2.out ?c2 ?c3 ?c4 ?c5 ?_)
                  case c2 => first | rfl | (intro z hz; simp at hz; subst hz; rfl)
                  case c3 => unfold maxLen; omega
                  case c4 => omega
                  case c5 => first | omega | (simp; omega)
                  intro v2 w4 hown hg
                  have HUN := Lib.hid (HU2.out.of_grown hg (fun j hj hj2 => by have := (owns_lt HO2.out hj).1; omega))
                  have HOW2 := Lib.hid hown
                  have HOY2 := Lib.hid (HY2.out.kept hg (kept_of HAP.out).1)
                  clear hown hg
                  go_wp2_with fail
                  exact ⟨⟨k + 1, L ++ [f.row], R, by go_num, by omega, by first | omega | (simp; omega), by first | omega | (simp; omega), (by
                    rw [HT.out, HB.out, if_pos rfl]
                    exact ⟨(by rw [List.map_append, List.length_append]; exact HOW2.out), HOY2.out, (fun e => by simp at e), HR0.out, HHL.out.add (by simp only [hlt2]) HMEM.out, HHR.out.stay (fun h => by simp only [hlt2] at h; exact absurd h (by simp))⟩), HUN.out⟩, by simp [intOf]; omega⟩
          | false =>
            have hlt3 := hlt2
            unfold ltB at hlt3
            obtain ⟨la, lc, hv⟩ := HSR2.out.slice
            subst hv
            go_wp2_with fail
            go_loopw [12, 13] (fun fd x wi => ∃ j : Nat, x = .int .i64 j ∧ j ≤ R.length ∧ fd = .bool (memB (R.take j) f.row) ∧ wi = wr) (fun _ x _ => R.length - (intOf x).toNat)
            case atStart => exact ⟨0, rfl, by omega, by simp [memB], by trivial⟩
            case round =>
              obtain ⟨j, rfl, hj, rfl, rfl⟩ := hrel
              by_cases hjl : j < R.length
              · have hjl2 : (j : Int) < (R.length : Int) := by omega
                have hj0 : (0 : Int) ≤ (j : Int) := by omega
                obtain ⟨g2, o2, rfl, d0⟩ := HSR2.out.cell hjl
                have hmk := mem_step R f.row hjl
                cases hfd : memB (R.take j) f.row
                · rw [hfd, Bool.false_or] at hmk
                  go_wp2_with fail
                  exact ⟨⟨j + 1, by go_num, by omega, by rw [hmk], by trivial⟩, by simp [intOf]; omega⟩
                · rw [hfd, Bool.true_or] at hmk
                  go_wp2_with fail
                  exact ⟨⟨j + 1, by go_num, by omega, by rw [hmk], by trivial⟩, by simp [intOf]; omega⟩
              · have hjl2 : ¬ (j : Int) < (R.length : Int) := by omega
                obtain rfl : j = R.length := by omega
                rw [List.take_length]
                cases hmem : memB R f.row
                rotate_left
                · have HMEM := Lib.hid ((memB_iff _ _).1 hmem)
                  go_wp2_with fail
                  exact ⟨⟨k + 1, L, R, by go_num, by omega, by omega, by omega, (by
                    rw [HT.out, HB.out, if_pos rfl]
                    exact ⟨HOL.out, HOR.out, HL0.out, HR0.out, HHL.out.stay (fun h => by simp only [hlt2] at h; exact absurd h (by simp)), HHR.out.stay (fun _ => HMEM.out)⟩), HUV.out⟩, by simp [intOf]; omega⟩
                · have HMEM := Lib.hid (show f.row ∉ R from fun h => by rw [(memB_iff _ _).2 h] at hmem; cases hmem)
                  go_upto_region 24 with fail
                  have hsz := HUV.out.size
                  have hu2 : Upd (fun _ => False) wr (wr.alloc (.cells #[.string f.row] 9)) := (Upd.refl _ wr).alloc _
                  have HO2 := Lib.hid (owns_upd HOR.out hu2 (fun _ _ f => f))
                  have HY2 := Lib.hid (owns_upd HOL.out hu2 (fun _ _ f => f))
                  have HS2 := Lib.hid (strs_alloc (w := wr) (t := 9) [f.row] (by simp))
                  have HU2 := Lib.hid (HUV.out.trans hu2 (fun _ _ f => f))
                  clear hu2
                  go_wp2_with (at_builtin; refine wpList_append_row rfl _ _ 52 rfl w2.heap.size 9 i0 (.string ⟨#[]⟩) 1 16 Try.underlying52 hi0 hz0 hz1 hz2 rfl (by decide) _ _ _ rfl HO2.out _ 1 [.string f.row] rfl HS2.out ?c2 ?c3 ?c4 ?c5 ?_)
                  case c2 => first | rfl | (intro z hz; simp at hz; subst hz; rfl)
                  case c3 => unfold maxLen; omega
                  case c4 => omega
                  case c5 => first | omega | (simp; omega)
                  intro v2 w4 hown hg
                  have HUN := Lib.hid (HU2.out.of_grown hg (fun j hj hj2 => by have := (owns_lt HO2.out hj).1; omega))
                  have HOW2 := Lib.hid hown
                  have HOY2 := Lib.hid (HY2.out.kept hg (kept_of HAP.out).2)
                  clear hown hg
                  go_wp2_with fail
                  exact ⟨⟨k + 1, L, R ++ [f.row], by go_num, by omega, by first | omega | (simp; omega), by first | omega | (simp; omega), (by
                    rw [HT.out, HB.out, if_pos rfl]
                    exact ⟨HOY2.out, (by rw [List.map_append, List.length_append]; exact HOW2.out), HL0.out, (fun e => by simp at e), HHL.out.stay (fun h => by simp only [hlt2] at h; exact absurd h (by simp)), HHR.out.add (by simp only [hlt2]; rfl) HMEM.out⟩), HUN.out⟩, by simp [intOf]; omega⟩
        · go_wp2_with fail
          exact ⟨⟨k + 1, L, R, by go_num, by omega, by omega, by omega, (by rw [HT.out, HB.out, if_neg (by simp), List.append_nil]; exact HH.out), HUV.out⟩, by simp [intOf]; omega⟩
        · go_wp2_with fail
          exact ⟨⟨k + 1, L, R, by go_num, by omega, by omega, by omega, (by rw [HT.out, HB.out, if_neg (by simp), List.append_nil]; exact HH.out), HUV.out⟩, by simp [intOf]; omega⟩
        · go_wp2_with fail
          exact ⟨⟨k + 1, L, R, by go_num, by omega, by omega, by omega, (by rw [HT.out, HB.out, if_neg (by simp), List.append_nil]; exact HH.out), HUV.out⟩, by simp [intOf]; omega⟩
      · have hlti : ¬ (k : Int) < (m : Int) := by omega
        obtain rfl : k = m := by omega
        have e : rowsOf lo hi (lm.take k) = rowsOf lo hi lm := by rw [HLM.out, List.take_length]
        rw [e] at hh
        have HH := Lib.hid hh
        clear hh e
        go_wp2_with fail
        go_meet
        case rel => exact ⟨L, R, hLk, HH.out, hu⟩
  case rest =>
    obtain ⟨L, R, hLm, hh, hu⟩ := hcut
    obtain ⟨hol, hor, _, _, hL, hR⟩ := hh
    obtain ⟨l1, l2, l3⟩ := halves_len HD.out HS.out hL hR
    have hSL : StrsAt wc _ L := RowAt.of_own hol
    have hSR : StrsAt wc _ R := RowAt.of_own hor
    obtain ⟨la, lc, hv⟩ := hSL.slice
    obtain ⟨ra, rc, hv'⟩ := hSR.slice
    subst hv
    subst hv'
    have HUV := Lib.hid hu
    obtain ⟨p0, p1, _, _⟩ := box2 (hu.keep HXW.out (fun f => f))
    clear hol hor hL hR hSL hSR hu
    have g1 : (L.length : Int) ≤ (R.length : Int) := by omega
    have g2 : (R.length : Int) ≤ (L.length : Int) + 1 := by omega
    have g3 : (0 : Int) < (L.length : Int) := by omega
    have g4 : (L.length : Int) ≤ 300 := by omega
    generalize L.length = nl at *
    generalize R.length = nr at *
    go_wp2_with fail
    refine (check_any lo hi _ hlo hhi).mono ?_
    rintro e w3 ⟨rfl, hu3⟩
    have HU3 := Lib.hid (HUV.out.trans hu3 (fun _ _ f => f))
    clear hu3 HUV p0 p1
    obtain ⟨p0, p1, _, _⟩ := box2 (HU3.out.keep HXW.out (fun f => f))
    cases hck : checkB lo hi with
    | false =>
      rw [if_neg (by simp)]
      go_wp2_with fail
      go_ret
      exact ⟨rfl, HUW.out.trans HU3.out (fun _ _ f => f)⟩
    | true =>
      rw [if_pos rfl]
      go_wp2_with fail
      refine (split_ok lo hi s _ hlo hhi hs24 hck HSL.out HSH.out).mono ?_
      rintro e w4 ⟨rfl, hu4⟩
      have HU4 := Lib.hid (HU3.out.trans hu4 (fun _ _ f => f))
      clear hu4 HU3 p0 p1
      go_wp2_with fail
      go_ret
      exact ⟨rfl, (HUW.out.trans ((HU4.out.alloc _).alloc _) (fun _ _ f => f))⟩
theorem halves_law (a : Option Addr) (n cap : Nat) (l : List Ce) (lo hi : ByteArray) (w : World) (h0 : CellsIn w a n cap l) (h2 : lo.size ≤ maxLen ∧ hi.size ≤ maxLen) :
    Calls Try.prog 5 #[.slice a n cap, .agg #[.string lo, .string hi]] w (PureUpd (.bool true) w) :=
  halves_any h0 lo hi (by have := h2.1; unfold maxLen at this; omega) (by have := h2.2; unfold maxLen at this; omega)
end Go.Proofs.Ytkkickalleelkaa
