/- The reference's Crash. -/
import Derived.Test.YtgkegfgdpekehaaDy
import Derived.Test.YtgkegfgdpekehaaDh
namespace Go.Proofs.Ytgkegfgdpekehaa
open Go.RowKit Go.Acre Go.Acre.Dk Go.Maps
theorem crash_take (D : Files) (zs : List Int) {k : Nat} (h : k < D.length) : crashD (D.take (k + 1)) zs = crashD (D.take k) zs ++ [cutE zs[k]? D[k]] := by
  rw [List.take_succ_eq_append_getElem h, crashD_snoc, List.length_take, Nat.min_eq_left (Nat.le_of_lt h)]
set_option maxHeartbeats 4000000 in
set_option maxRecDepth 100000 in
theorem rcrash_any {w : World} {R : Int} {a : Option Addr} {n cap : Nat} {D : Files} (hn : n = D.length) (h : FilesAt w (.slice a n cap) D) (hnm : n ≤ 1000000) (hsy : ∀ f ∈ D, f.synced ≤ f.bytes.size ∧ f.bytes.size ≤ 4611686018427387904)
    (ka : Option Addr) (kl kc : Nat) (zs : List Int) (hkl : kl = zs.length) (hz : IntsAt .i64 w (.slice ka kl kc) zs) (hzw : ∀ z ∈ zs, -9223372036854775808 ≤ z ∧ z ≤ 9223372036854775807) :
    Calls Try.prog 93 #[.agg #[.int .i64 R, .slice a n cap], .slice ka kl kc] w (RefPost R (crashD D zs) w) := by
  obtain ⟨i0, hi, hz0, hz1, hz2⟩ := info_parts info76
  have HN := Lib.hid hn
  have HP := Lib.hid (pre2 (R := R) h)
  have HKL := Lib.hid hkl
  have HZW := Lib.hid hzw
  have HSY := Lib.hid hsy
  have HZ := Lib.hid (IntsAt.upd0 hz HP.out.upd)
  have hklb : kl ≤ 9223372036854775807 := by rw [hkl]; exact ints_bound hz
  clear h hn hkl hz hzw hsy
  go_enter Try.func93, Try.ntmps93
  go_upto_region 1 with fail
  generalize (w.alloc (.cells #[.int .i64 R, .slice a n cap] 69)).alloc (.cells #[.int .i64 0, .slice none 0 0] 69) = wb at *
  generalize w.heap.size = xb at *
  go_wp2_with fail
  go_loopw [5, 6] (fun v i wr => ∃ (k : Nat) (acc : Files), i = .int .i64 k ∧ k ≤ n ∧ OwnF wr wb.heap.size v acc ∧ Hid (acc = crashD (D.take k) zs) ∧ acc.length ≤ k ∧ Upd (fun _ => False) wb wr) (fun _ i _ => n - (intOf i).toNat)
  case atStart => exact ⟨0, [], rfl, by omega, World.ownsRow_nil _ _ _ _, rfl, by simp, Upd.refl _ _⟩
  case round =>
    obtain ⟨k, acc, rfl, hk, ho, HACC, hal, hu⟩ := hrel
    obtain ⟨y0, y1, t0, t1, z0, z1⟩ := (HP.out.next hu).cells
    by_cases hlt : k < n
    · have hlt2 : (k : Int) < (n : Int) := by omega
      have hks : k < D.length := by rw [← HN.out]; exact hlt
      obtain ⟨g, o, rfl, c0, c1, c2⟩ := HP.out.files.cell hks
      have d0 := cell_upd hu c0 (fun f => f)
      have d1 := cell_upd hu c1 (fun f => f)
      have d2 := cell_upd hu c2 (fun f => f)
      obtain ⟨hs1, hs2⟩ := HSY.out D[k] (List.getElem_mem hks)
      have HT := Lib.hid (crash_take D zs hks)
      rw [← HACC.out, cutE_kept] at HT
      clear c0 c1 c2
      generalize D[k] = f at *
      obtain ⟨u, hud⟩ : ∃ u, u = f.bytes.size - f.synced := ⟨_, rfl⟩
      rw [← hud] at HT
      have hsub : (f.bytes.size : Int) - (f.synced : Int) = (u : Int) := by omega
      have hub : u ≤ 4611686018427387904 := by omega
      have HUD := Lib.hid hud
      clear hud
      have HO := Lib.hid ho
      have HU := Lib.hid hu
      go_upto_region 6 with fail
      have hua : Upd (fun _ => False) wr (wr.alloc (.cells #[.string f.name, .string f.bytes, .int .i64 (f.synced : Nat)] 76)) := (Upd.refl _ wr).alloc _
      have hfx := heap_alloc (w := wr) (.cells #[.string f.name, .string f.bytes, .int .i64 (f.synced : Nat)] 76)
      have f0 := cell_of_heap hfx 0
      have f1 := cell_of_heap hfx 1
      have f2 := cell_of_heap hfx 2
      simp only [List.getElem?_toArray, List.getElem?_cons_zero, List.getElem?_cons_succ] at f0 f1 f2
      have HUA := Lib.hid hua
      clear hua hfx ho hu y0 y1 t0 t1 z0 z1 d0 d1 d2
      generalize wr.alloc (.cells #[.string f.name, .string f.bytes, .int .i64 (f.synced : Nat)] 76) = wq at *
      generalize hfb : wr.heap.size = fb at *
      have HFB := Lib.hid hfb
      clear hfb
      go_upto_if 31 with fail
      go_cut [9] (fun x wx => x = .int .i64 (keptN zs k u : Nat) ∧ wq = wx)
      case first =>
        by_cases hk : k < kl
        · have hk2 : k < zs.length := by rw [← HKL.out]; exact hk
          obtain ⟨g, o, rfl, hc⟩ := HZ.out.cell hk2
          have hc1 := cell_upd HUA.out (cell_upd HU.out hc (fun f => f)) (fun f => f)
          have hzb := HZW.out zs[k] (List.getElem_mem hk2)
          have HK : Hid (keptN zs k u = keepN zs[k] u) := by show _ = _; unfold keptN; rw [List.getElem?_eq_getElem hk2]
          clear hc
          generalize zs[k] = z at *
          have hat := at_place2 z ((u : Int) + 1) (by omega)
          have hlti : (k : Int) < (kl : Int) := by omega
          have hnz2 : ¬ ((u : Int) + 1 = 0) := by omega
          have hpos : (0 : Int) < (u : Int) + 1 := by omega
          rcases hat with hat | hat
          · obtain ⟨P, hP⟩ : ∃ P : Nat, z.tmod ((u : Int) + 1) = (P : Int) := ⟨_, (Int.toNat_of_nonneg hat.1).symm⟩
            have hP0 : decide ((P : Int) < 0) = false := by simp
            have HPP : Hid (keepN z u = P) := by
              show _ = _
              unfold keepN
              rw [if_neg (by omega), hP]
              rfl
            clear hat
            go_wp2_with fail
            go_meet
            case rel => exact ⟨by rw [HK.out, HPP.out], rfl⟩
          · obtain ⟨q, hq⟩ : ∃ q, q = z.tmod ((u : Int) + 1) := ⟨_, rfl⟩
            obtain ⟨P, hP⟩ : ∃ P : Nat, z.tmod ((u : Int) + 1) + (u : Int) + 1 = (P : Int) := ⟨_, (Int.toNat_of_nonneg (by have := hat.2; omega)).symm⟩
            have HPP : Hid (keepN z u = P) := by
              show _ = _
              unfold keepN
              rw [if_pos hat.1]
              omega
            rw [← hq] at hat hP
            have hq0 : decide (q < 0) = true := by simp; exact hat.1
            have hq1 : q < 0 := hat.1
            have hq2 : -(u : Int) - 1 ≤ q := by omega
            have hQ := hq.symm
            clear hat hq
            go_wp2_with fail
            go_meet
            case rel => exact ⟨by rw [HK.out, HPP.out], rfl⟩
        · have hK : keptN zs k u = 0 := by unfold keptN; rw [List.getElem?_eq_none (by rw [← HKL.out]; omega)]
          have HK := Lib.hid hK
          have hlti : decide ((k : Int) < (kl : Int)) = false := by simp; omega
          clear hK
          go_wp2_with fail
          go_meet
          case rel => exact ⟨by rw [HK.out]; rfl, rfl⟩
      case rest =>
        obtain ⟨rfl, rfl⟩ := hcut
        have hnn := keptN_le zs k u
        obtain ⟨nn, hnd⟩ : ∃ nn, nn = keptN zs k u := ⟨_, rfl⟩
        rw [← hnd] at hnn HT ⊢
        clear hnd
        have hud := HUD.out
        have hwa : IntKind.i64.wrap ((f.synced : Int) + (nn : Int)) = (f.synced : Int) + (nn : Int) := by rw [IntKind.wrap_i64]; omega
        have hb0 : (0 : Int) ≤ (f.synced : Int) + (nn : Int) := by omega
        have hb1 : (f.synced : Int) + (nn : Int) ≤ (f.bytes.size : Int) := by omega
        have htn : ((f.synced : Int) + (nn : Int)).toNat = f.synced + nn := by omega
        clear hud
        have hO := OwnF.upd0 HO.out HUA.out
        have HT2 : Hid (acc ++ [⟨f.name, f.bytes.extract 0 (f.synced + nn), f.synced + nn⟩] = crashD (D.take (k + 1)) zs) := HT.out.symm
        have HOD := Lib.hid (OwnF.upd0 hO ((Upd.refl (fun _ => False) wq).drew.alloc (.cells #[.string f.name, .string (f.bytes.extract 0 (f.synced + nn)), .int .i64 ((f.synced : Int) + (nn : Int))] 76)))
        have HFA : Hid (FilesAt (wq.drew.alloc (.cells #[.string f.name, .string (f.bytes.extract 0 (f.synced + nn)), .int .i64 ((f.synced : Int) + (nn : Int))] 76)) (.slice (some ⟨wq.heap.size, 0, none⟩) 1 1) [⟨f.name, f.bytes.extract 0 (f.synced + nn), f.synced + nn⟩]) := files_alloc (w := wq.drew) ⟨f.name, f.bytes.extract 0 (f.synced + nn), f.synced + nn⟩
        have b1 : acc.length + ([⟨f.name, f.bytes.extract 0 (f.synced + nn), f.synced + nn⟩] : Files).length ≤ maxLen := by unfold maxLen; simp; omega
        have b2 : (acc.length + ([⟨f.name, f.bytes.extract 0 (f.synced + nn), f.synced + nn⟩] : Files).length) * 40 ≤ 140737488355328 := by simp; omega
        clear hO
        go_wp2_with fail
        have b3 : wb.heap.size ≤ (wq.drew.alloc (.cells #[.string f.name, .string (f.bytes.extract 0 (f.synced + nn)), .int .i64 ((f.synced : Int) + (nn : Int))] 76)).heap.size := by have h1 := HU.out.size; have h2 := HUA.out.size; simp; omega
        have HUW := Lib.hid (((HU.out.trans HUA.out (fun _ _ h => h)).drew).alloc (.cells #[.string f.name, .string (f.bytes.extract 0 (f.synced + nn)), .int .i64 ((f.synced : Int) + (nn : Int))] 76))
        have hcs : wq.drew.cell? ⟨fb, 0, none⟩ = some (.string f.name) ∧ wq.drew.cell? ⟨fb, 1, none⟩ = some (.string f.bytes) ∧ wq.drew.cell? ⟨fb, 2, none⟩ = some (.int .i64 (f.synced : Nat)) := ⟨f0, f1, f2⟩
        have hal : Upd (fun _ => False) wq.drew (wq.drew.alloc (.cells #[.string f.name, .string (f.bytes.extract 0 (f.synced + nn)), .int .i64 ((f.synced : Int) + (nn : Int))] 76)) := (Upd.refl _ _).alloc _
        have HAL := Lib.hid hal
        clear hal
        go_region_held3 (fun w' => w'.cell? ⟨fb, 0, none⟩ = some (.string f.name) ∧ w'.cell? ⟨fb, 1, none⟩ = some (.string f.bytes) ∧ w'.cell? ⟨fb, 2, none⟩ = some (.int .i64 (f.synced : Nat))) (first | exact hcs | exact hcs5 | exact ⟨cell_upd HAL.out hcs.1 (fun f => f), cell_upd HAL.out hcs.2.1 (fun f => f), cell_upd HAL.out hcs.2.2 (fun f => f)⟩) ((refine step_append_mine rfl (.tmp 45) (.tmp 60) 67 rfl wb.heap.size 76 i0 (.agg #[.string ⟨#[]⟩, .string ⟨#[]⟩, .int .i64 0]) 3 40 Try.underlying67 hi hz0 hz1 hz2 rfl (by decide) u5 _ _ (by simp [Act.eval, Act.put]) HOD.out _ _ _ (by simp [Act.eval, Act.put]) HFA.out (flatE_cell _) b1 b2 b3 ?_; intro v5 w5 hown5 hg5; have HU6 := Lib.hid ((Upd.refl (fun i => i < fb) _).of_grown hg5 (by intro j hj hj2; have := (HO.out.lt j hj).2; have := HFB.out; omega)); have hcs5 : w5.cell? ⟨fb, 0, none⟩ = some (.string f.name) ∧ w5.cell? ⟨fb, 1, none⟩ = some (.string f.bytes) ∧ w5.cell? ⟨fb, 2, none⟩ = some (.int .i64 (f.synced : Nat)) := ⟨cell_upd HU6.out (cell_upd HAL.out hcs.1 (fun f => f)) (Nat.lt_irrefl _), cell_upd HU6.out (cell_upd HAL.out hcs.2.1 (fun f => f)) (Nat.lt_irrefl _), cell_upd HU6.out (cell_upd HAL.out hcs.2.2 (fun f => f)) (Nat.lt_irrefl _)⟩; have HU5 := Lib.hid (HUW.out.of_grown hg5 (by intro j hj hj2; have := (HO.out.lt j hj).1; omega)); have HO5 := Lib.hid hown5; clear hown5 hg5))
        all_goals go_wp2_with fail
        all_goals exact ⟨⟨k + 1, acc ++ [⟨f.name, f.bytes.extract 0 (f.synced + nn), f.synced + nn⟩], by go_num, by omega, by unfold OwnF; rw [flatE_append, List.length_append]; exact HO5.out, HT2, by simp; omega, HU5.out⟩, by simp [intOf]; omega⟩
    · have hge : ¬ (k : Int) < (n : Int) := by omega
      have he : acc = crashD D zs := by
        have := HACC.out
        rw [List.take_of_length_le (by have := HN.out; omega)] at this
        exact this
      subst he
      obtain ⟨va, vc, rfl⟩ := ho.slice
      have HP3 := Lib.hid (HP.out.next hu)
      go_wp2_with fail
      try simp only [Exit.inBlock, Exit.then]
      refine bodyPost_ret (results_cell_row rfl _ _ (xb + 1) 69 _ (0, 0) _ rfl (cells2 HP3.out.res) Try.underlying69 rfl (by kernel_rfl)) rfl ?_
      exact ⟨va, vc, rfl, RowAt.upd_own (S := fun i => i = xb + 1) (ho.files) upd2 (fun g hg e => by have := (ho.lt g hg).1; have := lt_of_heap HP.out.res; omega), HP3.out.post, fun g hg => by have := (ho.lt g hg).1; have := HP.out.upd.size; omega⟩
end Go.Proofs.Ytgkegfgdpekehaa
