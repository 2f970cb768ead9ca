/- DiskRefused's walk. -/
import Derived.Test.YtgkegfgdpekehaaDm
namespace Go.Proofs.Ytgkegfgdpekehaa
open Go.RowKit Go.Acre Go.Acre.Dk Go.Maps

theorem four (k : Int) : ∃ (m : Int) (q : Nat), k.tmod 4 = m ∧ -4 < m ∧ m < 4 ∧ q < 4 ∧ (m + 4).tmod 4 = (q : Int) := by
  have h1 : -4 < k.tmod 4 := by
    have := Int.lt_tmod_of_pos k (show (0 : Int) < 4 by omega)
    omega
  have h2 : k.tmod 4 < 4 := Int.tmod_lt_of_pos k (by omega)
  have h3 : 0 ≤ ((k.tmod 4) + 4).tmod 4 := Int.tmod_nonneg 4 (by omega)
  have h4 : ((k.tmod 4) + 4).tmod 4 < 4 := Int.tmod_lt_of_pos _ (by omega)
  exact ⟨_, (((k.tmod 4) + 4).tmod 4).toNat, rfl, h1, h2, by omega, by omega⟩
theorem list_small {room : Nat} {D : Files} (h : May room D) {p : ByteArray} : ∀ s ∈ listD D p, s.size ≤ maxLen := by
  intro s hs
  unfold listD at hs
  obtain ⟨f, hf, rfl⟩ := List.mem_map.1 (List.mem_filter.1 hs).1
  have := h.names f hf
  simp only [nameOk, decide_eq_true_eq] at this
  unfold maxLen
  omega
set_option maxHeartbeats 4000000 in
set_option maxRecDepth 100000 in
theorem drefused_any (R : Int) (a : Option Addr) (len cap : Nat) (w : World) (hR : -9223372036854775808 ≤ R ∧ R ≤ 9223372036854775807) (hd : Dos w a len) (hlen : len ≤ maxLen) :
    Calls Try.prog 16 #[.int .i64 R, .slice a len cap] w (Fresh true w) := by
  have HD := Lib.hid hd
  clear hd
  go_enter Try.func16, Try.ntmps16
  go_wp2_with fail
  refine (dworks_any _).mono ?_
  rintro e w1 ⟨rfl, hu1⟩
  go_wp2_with fail
  refine (d_new R w w1 hu1 hR).mono ?_
  rintro e w2 ⟨db, rfl, h2⟩
  clear hu1
  have HL := Lib.hid hlen
  unfold maxLen at hlen
  go_wp2_with fail
  go_loopw [6] (fun i wr => ∃ (k : Nat) (D : Files), i = .int .i64 k ∧ k ≤ len ∧ k ≤ 100 ∧ Dsk w wr db R.toNat k D) (fun i _ => len - (intOf i).toNat)
  case atStart => exact ⟨0, [], rfl, by omega, by omega, h2⟩
  case round =>
    obtain ⟨k, D, rfl, hk, hk100, h⟩ := hrel
    clear h2
    by_cases hgo : k < len ∧ k < 100
    · obtain ⟨hg1, hg2⟩ := hgo
      obtain ⟨g, o, kk, nm, dt, ka, kl, kc, zs, rfl, c0, c1, c2, c3, hkk, hnm, hdt, _, _, _⟩ := HD.out k hg1
      have e0 := cell_upd h.fresh c0 (fun f => f)
      have e1 := cell_upd h.fresh c1 (fun f => f)
      have e2 := cell_upd h.fresh c2 (fun f => f)
      have e3 := cell_upd h.fresh c3 (fun f => f)
      clear c0 c1 c2 c3
      go_wp2_with fail
      have hx : (wr.alloc (.cells #[.int .i64 kk, .string nm, .string dt, .slice ka zs.length kc] 74)).heap[wr.heap.size]? = some (.cells #[.int .i64 kk, .string nm, .string dt, .slice ka zs.length kc] 74 (0, 0)) := heap_alloc _
      have h1 := h.upd ((Upd.refl (fun _ => False) wr).alloc (.cells #[.int .i64 kk, .string nm, .string dt, .slice ka zs.length kc] 74))
      clear h e0 e1 e2 e3
      generalize wr.alloc (.cells #[.int .i64 kk, .string nm, .string dt, .slice ka zs.length kc] 74) = wa at *
      generalize wr.heap.size = xb at *
      refine (d_copy h1 (by omega)).mono ?_
      rintro e w3 ⟨d2, rfl, h3, hu3⟩
      have hx3 := hu3.keep hx (fun f => f)
      clear hx hu3 h1
      go_wp2_with fail
      refine (d_free h3.left).mono ?_
      rintro e w4 ⟨rfl, hu4⟩
      have h4 := h3.upd hu4
      have hx4 := hu4.keep hx3 (fun f => f)
      have x0 := cell_of_heap hx4 0
      have x1 := cell_of_heap hx4 1
      have x2 := cell_of_heap hx4 2
      simp only [List.getElem?_toArray, List.getElem?_cons_zero, List.getElem?_cons_succ] at x0 x1 x2
      clear hx3 hu4 h3 hx4
      obtain ⟨m, q, hm, hm1, hm2, hq4, hq⟩ := four kk
      have hmay := h4.left.may
      have hbig : R.toNat ≤ 9223372036854775807 := by omega
      go_upto_block 2 with fail
      go_cut [10] (fun c wx => ∃ (code : Nat) (D' : Files), c = .int .i64 (code : Nat) ∧ Two w wx db d2 R.toNat (k + 1) D' D ∧ (code ≠ 0 → D' = D))
      case first =>
        rcases (by omega : q = 0 ∨ q = 1 ∨ q = 2 ∨ q = 3) with rfl | rfl | rfl | rfl
        · go_wp2_with fail
          refine (two_any h4 (Nat.le_succ k) fun S hS => append_any hS nm dt hnm (by unfold maxLen at hdt; omega) (by unfold maxLen; omega)).mono ?_
          rintro e w5 ⟨rfl, h5⟩
          go_wp2_with fail
          go_meet
          case rel => exact ⟨_, _, rfl, h5, append_same⟩
        · go_wp2_with fail
          refine (two_any h4 (Nat.le_succ k) fun S hS => rename_any hS nm dt hnm hdt (by unfold maxLen; omega)).mono ?_
          rintro e w5 ⟨rfl, h5⟩
          go_wp2_with fail
          go_meet
          case rel => exact ⟨_, _, rfl, h5, rename_same⟩
        · go_wp2_with fail
          refine (two_any h4 (Nat.le_succ k) fun S hS => remove_any (hS.mono (Nat.le_succ k)) nm hnm).mono ?_
          rintro e w5 ⟨rfl, h5⟩
          go_wp2_with fail
          go_meet
          case rel => exact ⟨_, _, rfl, h5, remove_same⟩
        · go_wp2_with fail
          refine (two_any h4 (Nat.le_succ k) fun S hS => sync_any (hS.mono (Nat.le_succ k)) nm hnm).mono ?_
          rintro e w5 ⟨rfl, h5⟩
          go_wp2_with fail
          go_meet
          case rel => exact ⟨_, _, rfl, h5, sync_same⟩
      case rest =>
        obtain ⟨code, D', rfl, h5, hcode⟩ := hcut
        have hmay5 := h5.left.may.fits
        clear h4
        go_wp2_with fail
        refine (d_free h5.left).mono ?_
        rintro e w6 ⟨rfl, hu6⟩
        have h6 := h5.upd hu6
        clear h5 hu6
        go_wp2_with fail
        refine (d_free h6.left).mono ?_
        rintro e w7 ⟨rfl, hu7⟩
        have h7 := h6.upd hu7
        clear h6 hu7
        have hmx : 0 ≤ ((R.toNat - total D' : Nat) : Int) ∧ ((R.toNat - total D' : Nat) : Int) ≤ max R 0 := by omega
        by_cases hc0 : code = 0
        · subst hc0
          go_wp2_with fail
          exact ⟨⟨k + 1, D', by go_num, by omega, by omega, h7.left⟩, by simp [intOf]; omega⟩
        · obtain rfl := hcode hc0
          have hc1 : ¬ ((code : Nat) : Int) = 0 := by omega
          go_wp2_with fail
          refine (d_list h7.left _ (by omega)).mono ?_
          rintro e w8 ⟨v1, rfl, o1, hu8⟩
          have h8 := h7.upd hu8
          clear h7
          go_wp2_with fail
          refine (d_list h8.right _ (by omega)).mono ?_
          rintro e w9 ⟨v2, rfl, o2, hu9⟩
          have h9 := h8.upd hu9
          have s1 : StrsAt w9 v1 (listD D' ⟨#[]⟩) := (StrsAt.of_own o1).upd0 hu9
          have s2 : StrsAt w9 v2 (listD D' ⟨#[]⟩) := StrsAt.of_own o2
          have hnames : ∀ s ∈ listD D' ⟨#[]⟩, s.size ≤ maxLen := list_small h9.left.may
          clear o1 o2 hu9 hu8 h8
          obtain ⟨a1, cap1, rfl⟩ := s1.slice
          obtain ⟨a2, cap2, rfl⟩ := s2.slice
          generalize listD D' ⟨#[]⟩ = ss at *
          go_wp2_with fail
          refine (d_free h9.left).mono ?_
          rintro e wx ⟨rfl, hux⟩
          have hx := h9.upd hux
          have t1 := Lib.hid (s1.upd0 hux)
          have t2 := Lib.hid (s2.upd0 hux)
          have HN := Lib.hid hnames
          clear h9 s1 s2 hux hnames
          go_wp2_with fail
          have hnb : ss.length ≤ 9223372036854775807 := by have := t1.out.bound; unfold maxLen at this; omega
          go_loopw [13] (fun i wr => ∃ (j : Nat), i = .int .i64 j ∧ j ≤ ss.length ∧ Upd (fun _ => False) wx wr) (fun i _ => ss.length - (intOf i).toNat)
          case atStart => exact ⟨0, rfl, by omega, Upd.refl _ _⟩
          case round =>
            obtain ⟨j, rfl, hj, hu⟩ := hrel
            have hy := hx.upd hu
            by_cases hlt : j < ss.length
            · obtain ⟨g1, o1, rfl, p1⟩ := t1.out.cell hlt
              obtain ⟨g2, o2, rfl, p2⟩ := t2.out.cell hlt
              have hsz := HN.out ss[j] (List.getElem_mem hlt)
              have q1 := cell_upd hu p1 (fun f => f)
              have q2 := cell_upd hu p2 (fun f => f)
              clear p1 p2
              generalize ss[j] = s at *
              have hlt2 : (j : Int) < (ss.length : Int) := by omega
              go_wp2_with fail
              refine (d_read hy.left s hsz).mono ?_
              rintro e w7 ⟨rfl, rfl⟩
              go_wp2_with fail
              refine (d_read hy.right s hsz).mono ?_
              rintro e w7 ⟨rfl, rfl⟩
              have hs : ∀ b, (b = db ∨ b = d2) → ∀ m, Calls Try.prog 48 #[.pointer (some ⟨b, 0, none⟩), .string s] (wr.drewN m) fun e w' => e = .returned (.int .i64 (syncedD D' s : Nat)) ∧ w' = wr.drewN m := by
                rintro b (rfl | rfl) m
                · exact (d_synced (hy.left.upd ((Upd.refl _ _).drewN m)) s hsz).mono (by rintro e w' ⟨rfl, rfl⟩; exact ⟨rfl, rfl⟩)
                · exact (d_synced (hy.right.upd ((Upd.refl _ _).drewN m)) s hsz).mono (by rintro e w' ⟨rfl, rfl⟩; exact ⟨rfl, rfl⟩)
              have hl1 : (s.toList == s.toList) = true := by simp
              have hl2 : ((readD D' s).1.toList == (readD D' s).1.toList) = true := by simp
              generalize readD D' s = rd at *
              generalize syncedD D' s = sy at *
              go_wp2_with fail
              go_quiet (refine Calls.quiet_of_same (hs _ (by simp) _))
              go_wp2_with fail
              exact ⟨⟨j + 1, by go_num, by omega, hu.drewN _⟩, by simp [intOf]; omega⟩
            · have hge : ¬ ((j : Int) < (ss.length : Int)) := by omega
              go_wp2_with fail
              exact ⟨⟨k + 1, _, by go_num, by omega, by omega, hy.left⟩, by simp [intOf]; omega⟩
    · have hge : ¬ ((k : Int) < (len : Int) ∧ (k : Int) < 100) := by omega
      by_cases hge : (k : Int) < (len : Int)
      · have hg100 : ¬ (k : Int) < 100 := by omega
        go_wp2_with fail
        go_ret
        exact ⟨rfl, h.fresh⟩
      · go_wp2_with fail
        go_ret
        exact ⟨rfl, h.fresh⟩
theorem drefused_all (R : Int) (a : Option Addr) (len cap : Nat) (w : World) (hR : (Lit.int .i64 R).wf = true) (hd : Dos w a len ∧ len ≤ maxLen) : Calls Try.prog 16 #[.int .i64 R, .slice a len cap] w (Fresh true w) :=
  drefused_any R a len cap w (int_of_wf hR) hd.1 hd.2
end Go.Proofs.Ytgkegfgdpekehaa
