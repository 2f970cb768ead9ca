/- The walk of greatest over locs. -/
import Derived.Test.YtkkickalleelkaaN
namespace Go.Proofs.Ytkkickalleelkaa
open Go.RowKit Go.Acre
attribute [local go_sem] run_store_float run_store_complex
set_option maxHeartbeats 2000000 in
set_option maxRecDepth 100000 in
theorem greatest_l {w : World} {a : Option Addr} {n c : Nat} {ls : List Lo} {ws : List (Nat × Bool)} {p0 p1 p2 p3 : Value} (hl : LocsAt w a n ls) (hn : n ≤ 12) (hw : ws.length = n)
    (hf : ∀ w', Upd (fun _ => False) w w' → ∀ i (h1 : i < ls.length) (h2 : i < ws.length) (v : Value), LoAt w v ls[i] → Calls Try.prog 29 #[.int .i64 (i : Int), agLo ls[i] v, p0, p1, p2, p3] w' (Fl2Post ws[i].1 ws[i].2 w')) :
    Calls Try.prog 28 #[.slice a n c, .func (.func 29) #[] #[p0, p1, p2, p3]] w (fun e w' => e = .returned (.int .i64 (gfold ws n).1) ∧ Upd (fun _ => False) w w') := by
  have HL := Lib.hid hl
  have HNL := Lib.hid hl.1
  have HF := Lib.hid hf
  have HW := Lib.hid hw
  clear hl hf hw
  go_enter Try.func28, Try.ntmps28
  go_upto_region 4 with fail
  go_loopw [5, 6, 13] (fun s m i wr => ∃ k : Nat, s = .int .i64 (gfold ws k).1 ∧ m = .float .f64 (gfold ws k).2 ∧ i = .int .i64 k ∧ k ≤ n ∧ Upd (fun _ => False) w wr) (fun _ _ i _ => n - (intOf i).toNat)
  case atStart => exact ⟨0, rfl, rfl, rfl, by omega, Upd.refl _ _⟩
  case round =>
    obtain ⟨k, rfl, rfl, rfl, hk, hu⟩ := hrel
    by_cases hlt : k < n
    · have hlti : (k : Int) < (n : Int) := by omega
      have hk0 : (0 : Int) ≤ (k : Int) := by omega
      have h1 : k < ls.length := by rw [← HNL.out]; exact hlt
      have h2 : k < ws.length := by rw [HW.out]; exact hlt
      obtain ⟨g, o, v, rfl, z0, z1, z2, z3, z4, hlo⟩ := HL.out.2 k h1
      obtain ⟨na, nc, hv⟩ := hlo.ints.slice
      obtain ⟨nl, hnl⟩ : ∃ nl, ls[k].nodes.length = nl := ⟨_, rfl⟩
      rw [hnl] at hv
      subst hv
      have hfk : ∀ w', Upd (fun _ => False) w w' → Calls Try.prog 29 #[.int .i64 (k : Int), agLo ls[k] (.slice na nl nc), p0, p1, p2, p3] w' (Fl2Post ws[k].1 ws[k].2 w') := fun w' hu' => HF.out w' hu' k h1 h2 _ hlo
      have hgf : gfold ws (k + 1) = if ws[k].2 && (decide ((gfold ws k).1 < 0) || gtF ws[k].1 (gfold ws k).2) then ((k : Int), ws[k].1) else gfold ws k := by
        rw [gfold, show ws.getD k (0, false) = ws[k] from by simp [h2]]
      have hge := gfold_ge ws k
      have c0 := cell_upd hu z0 (fun f => f)
      have c1 := cell_upd hu z1 (fun f => f)
      have c2 := cell_upd hu z2 (fun f => f)
      have c3 := cell_upd hu z3 (fun f => f)
      have c4 := cell_upd hu z4 (fun f => f)
      clear z0 z1 z2 z3 z4 hlo hnl
      generalize ls[k] = l at *
      generalize ws[k] = x at *
      obtain ⟨xn, xb⟩ := x
      obtain ⟨bs, hbs⟩ : ∃ bs, (gfold ws k).1 = bs := ⟨_, rfl⟩
      obtain ⟨ms, hms⟩ : ∃ ms, (gfold ws k).2 = ms := ⟨_, rfl⟩
      rw [hbs] at hge
      simp only [hbs, hms] at hgf
      have HE : Hid (gfold ws k = (bs, ms)) := Lib.hid (by rw [← hbs, ← hms])
      rw [hbs, hms]
      unfold agLo at hfk
      have HFK := Lib.hid hfk
      have HGF := Lib.hid hgf
      clear hfk hgf hbs hms
      go_upto_region 6 with fail
      have hxb := heap_alloc (w := wr) (.cells #[.int .i64 l.group, .string ⟨#[]⟩, .string ⟨#[]⟩, .int .u64 0, .slice na nl nc] 63)
      have hub : Upd (fun _ => False) wr (wr.alloc (.cells #[.int .i64 l.group, .string ⟨#[]⟩, .string ⟨#[]⟩, .int .u64 0, .slice na nl nc] 63)) := (Upd.refl _ wr).alloc _
      have HU1 := Lib.hid (hu.trans hub (fun _ _ f => f))
      obtain ⟨b0, b1, b2, b3, b4⟩ := box5 hxb
      clear hub hxb c0 c1 c2 c3 c4 hu
      generalize wr.alloc (.cells #[.int .i64 l.group, .string ⟨#[]⟩, .string ⟨#[]⟩, .int .u64 0, .slice na nl nc] 63) = w1 at *
      generalize wr.heap.size = bb at *
      go_wp2_with fail
      refine (HFK.out _ HU1.out).mono ?_
      rintro e w2 ⟨rfl, hu2⟩
      have HU2 := Lib.hid (HU1.out.trans hu2 (fun _ _ f => f))
      clear hu2 b0 b1 b2 b3 b4 HU1
      cases hxb : xb with
      | false =>
        subst hxb
        have hg2 : gfold ws (k + 1) = (bs, ms) := by rw [HGF.out]; simp [HE.out]
        have HG2 := Lib.hid hg2
        clear hg2
        go_wp2_with fail
        exact ⟨⟨k + 1, by rw [HG2.out], by rw [HG2.out], by go_num, by omega, HU2.out⟩, by simp [intOf]; omega⟩
      | true =>
        subst hxb
        by_cases hb0 : bs < 0
        · have hg2 : gfold ws (k + 1) = ((k : Int), xn) := by rw [HGF.out]; simp [hb0]
          have hbd := decide_eq_true hb0
          have HG2 := Lib.hid hg2
          clear hg2
          go_wp2_with fail
          exact ⟨⟨k + 1, by rw [HG2.out], by rw [HG2.out], by go_num, by omega, HU2.out⟩, by simp [intOf]; omega⟩
        · have hbd := decide_eq_false hb0
          cases hgt : gtF xn ms with
          | false =>
            have hg2 : gfold ws (k + 1) = (bs, ms) := by rw [HGF.out]; simp [hb0, hgt, HE.out]
            have HG2 := Lib.hid hg2
            unfold gtF at hgt
            clear hg2
            go_wp2_with fail
            exact ⟨⟨k + 1, by rw [HG2.out], by rw [HG2.out], by go_num, by omega, HU2.out⟩, by simp [intOf]; omega⟩
          | true =>
            have hg2 : gfold ws (k + 1) = ((k : Int), xn) := by rw [HGF.out]; simp [hgt]
            have HG2 := Lib.hid hg2
            unfold gtF at hgt
            clear hg2
            go_wp2_with fail
            exact ⟨⟨k + 1, by rw [HG2.out], by rw [HG2.out], by go_num, by omega, HU2.out⟩, by simp [intOf]; omega⟩
    · have hlti : ¬ (k : Int) < (n : Int) := by omega
      obtain rfl : k = n := by omega
      go_wp2_with fail
      go_ret
      exact ⟨rfl, hu⟩
end Go.Proofs.Ytkkickalleelkaa
