/- The reference's with. -/
import Derived.Test.YtgkegfgdpekehaaGreatDu
import Derived.Deep.RegionLaw
namespace Go.Proofs.YtgkegfgdpekehaaGreat
open Go.RowKit Go.Acre Go.Acre.Dk Go.Maps
theorem none_add (b off j : Nat) : (⟨b, off, none⟩ : Addr).add j = ⟨b, off + j, none⟩ := by unfold Addr.add; split <;> simp_all
theorem flatE_take (D : Files) (m : Nat) : flatE (D.take m) = (flatE D).take (m * 3) := by
  induction D generalizing m with
  | nil => simp [flatE]
  | cons f r ih =>
    cases m with
    | zero => simp [flatE]
    | succ m =>
      rw [List.take_succ_cons]
      have e : flatE (f :: r.take m) = flatE [f] ++ flatE (r.take m) := flatE_append [f] _
      have e2 : flatE (f :: r) = flatE [f] ++ flatE r := flatE_append [f] _
      rw [e, e2, ih, flatE_one]
      rw [show (m + 1) * 3 = m * 3 + 3 from by omega]
      simp
theorem flatE_drop (D : Files) (m : Nat) : flatE (D.drop m) = (flatE D).drop (m * 3) := by
  induction D generalizing m with
  | nil => simp [flatE]
  | cons f r ih =>
    cases m with
    | zero => simp [flatE]
    | succ m =>
      rw [List.drop_succ_cons]
      have e2 : flatE (f :: r) = flatE [f] ++ flatE r := flatE_append [f] _
      rw [e2, ih, flatE_one]
      rw [show (m + 1) * 3 = m * 3 + 3 from by omega]
      simp
theorem FilesAt.take {w : World} {a : Option Addr} {n cap : Nat} {D : Files} (h : FilesAt w (.slice a n cap) D) (m : Nat) (hm : m ≤ D.length) : FilesAt w (.slice a m cap) (D.take m) := by
  obtain ⟨hl, a', c', hv, h1, h2, h3, hc⟩ := h
  simp only [Value.slice.injEq] at hv
  obtain ⟨rfl, rfl, rfl⟩ := hv
  have e : (D.take m).length = m := by simp; omega
  unfold FilesAt
  rw [flatE_take, e]
  refine ⟨by rw [List.length_take, hl]; omega, a, cap, rfl, by omega, h2, h3, fun hne => ?_⟩
  obtain ⟨g, o, hg, hcell⟩ := hc (fun e => hne (by rw [e]; simp))
  refine ⟨g, o, hg, fun i hi => ?_⟩
  simp only [List.length_take] at hi
  rw [hcell i (by omega), List.getElem?_take, if_pos (by omega)]
/-- append of a readable row to a row of the call's own, as one step of a region that draws -/
theorem step_append_mine {P : Program} {ops : Array Oper} {o : Oper} {a : Act} {w : World} {K : Act → World → Prop} {Q : Exit → Act → World → Prop} {E : Prop} (hg : o.guard = none) (s x : Operand) (t : TypeId)
    (ho : o.op = .call { callee := .builtin .append, args := #[s, x], argTypes := #[t, t] })
    (base : Nat) (e : TypeId) (i : TypeInfo) (z : Value) (size bytes : Nat) (ht : P.underlying t = some (.slice e)) (hi : P.info? e = some i) (hz : i.zero = some z)
    (hsize : i.size = size) (hby : i.bytes = bytes) (hzs : z.cells.size = size) (hsz : 0 < size)
    (v : Value) (n : Nat) (xs : List Value) (hs : a.eval s = v) (hown : w.ownsRow base e size v n xs)
    (vx : Value) (m : Nat) (news : List Value) (hx : a.eval x = vx) (hr : RowAt w size vx m news) (h1 : ∀ u ∈ news, u.oneCell' = true)
    (h63 : n + m ≤ maxLen) (hbytes : (n + m) * bytes ≤ 140737488355328) (hbase : base ≤ w.heap.size)
    (h : ∀ v' w', w'.ownsRow base e size v' (n + m) (xs ++ news) → w.grownBy w' v.ownBlock → K (a.put o.dst v') w') : if Region.wanted o (yielded ops a.tmps) = true then Oper.wp P o a w K Q else E := by
  have hw : Region.wanted o (yielded ops a.tmps) = true := by simp [Region.wanted, hg]
  rw [if_pos hw]
  obtain ⟨hl, ad, cap, rfl, hm, hcap, hnone, hcells⟩ := hr
  cases ad with
  | none =>
    obtain rfl := hnone rfl
    obtain rfl : m = 0 := by omega
    have hnews : news = [] := List.eq_nil_of_length_eq_zero (by simpa using hl)
    subst hnews
    have hrun := run_append_owned_none (P := P) (w := w) base t o.type e i size ht hi v n xs hown
    unfold Oper.wp
    simp [execOp, ho, resolve, invoke, builtin, hs, hx, hrun, Result.andThen]
    exact h v w (by simpa using hown) (World.grownBy.refl _ _)
  | some ad =>
    refine wp_append_own w s x t ho base e i z size bytes ht hi hz hsize hby hzs hsz v n xs hs hown ad m cap news hx hl ?_ h1 h63 hbytes hbase (fun v' w' h2 h3 _ => h v' w' h2 h3)
    intro j u hu
    have hj : j < news.length := (List.getElem?_eq_some_iff.1 hu).1
    obtain ⟨g, o', hg, hc⟩ := hcells (by intro e; simp [e] at hj)
    simp only [Option.some.injEq] at hg
    subst hg
    rw [none_add, hc j hj, hu]
theorem FilesAt.drop {w : World} {a : Option Addr} {n cap : Nat} {D : Files} (hn : n = D.length) (h : FilesAt w (.slice a n cap) D) (m : Nat) (hm : m ≤ n) : FilesAt w (.slice (if cap = m then a else Option.map (fun x => x.add (m * 3)) a) (n - m) (cap - m)) (D.drop m) := by
  obtain ⟨hl, a', c', hv, h1, h2, h3, hc⟩ := h
  simp only [Value.slice.injEq] at hv
  obtain ⟨rfl, hn2, rfl⟩ := hv
  have e : (D.drop m).length = n - m := by simp; omega
  unfold FilesAt
  rw [flatE_drop, e]
  refine ⟨by rw [List.length_drop, hl]; omega, _, cap - m, rfl, by omega, by omega, fun e0 => ?_, fun hne => ?_⟩
  · split at e0
    · omega
    · cases a with
      | none => have := h3 rfl; omega
      | some x => simp at e0
  · have hlt : m < n := by
      rcases Nat.lt_or_ge m n with h | h
      · exact h
      · exact absurd (List.drop_eq_nil_of_le (by rw [hl]; omega)) hne
    obtain ⟨g, o, hg, hcell⟩ := hc (fun e => hne (by rw [e]; simp))
    subst hg
    rw [if_neg (by omega)]
    refine ⟨g, o + m * 3, by simp [none_add], fun i hi => ?_⟩
    simp only [List.length_drop] at hi
    rw [Nat.add_assoc, hcell _ (by omega), List.getElem?_drop]
set_option maxHeartbeats 2000000 in
set_option maxRecDepth 100000 in
theorem with_any {w : World} {R : Int} {a : Option Addr} {n cap : Nat} {D : Files} (hn : n = D.length) (h : FilesAt w (.slice a n cap) D) (f : Ent) (hsrt : Srt En D) (hnm : n ≤ 1000000) (hf : (f.synced : Int) ≤ 9223372036854775807) : Calls Tryz.prog 24 #[.agg #[.int .i64 R, .slice a n cap], agE f] w (RefPost R (put En f D) w) := by
  obtain ⟨i0, hi, hz0, hz1, hz2⟩ := info_parts info76
  have HN := Lib.hid hn
  have hu1 : Upd (fun _ => False) w (w.alloc (.cells #[.int .i64 R, .slice a n cap] 33)) := (Upd.refl _ w).alloc _
  have hx1 := heap_alloc (w := w) (.cells #[.int .i64 R, .slice a n cap] 33)
  have hs1 : (w.alloc (.cells #[.int .i64 R, .slice a n cap] 33)).heap.size = w.heap.size + 1 := by simp
  have H0 := h.upd0 hu1
  have hs0 := hu1.size
  have HU1 := Lib.hid hu1
  unfold agE
  clear h hn hu1
  go_enter Tryz.func24, Tryz.ntmps24
  go_upto_region 1 with fail
  generalize hwa : w.alloc (.cells #[.int .i64 R, .slice a n cap] 33) = wa at *
  have hub : Upd (fun _ => False) wa ((wa.alloc (.cells #[.string f.name, .string f.bytes, .int .i64 (f.synced : Nat)] 54)).alloc (.cells #[.int .i64 0, .slice none 0 0] 33)) := ((Upd.refl _ wa).alloc _).alloc _
  have hb0 := hub.keep hx1 (fun f => f)
  have hb1 : ((wa.alloc (.cells #[.string f.name, .string f.bytes, .int .i64 (f.synced : Nat)] 54)).alloc (.cells #[.int .i64 0, .slice none 0 0] 33)).heap[wa.heap.size]? = some (.cells #[.string f.name, .string f.bytes, .int .i64 (f.synced : Nat)] 54 (0, 0)) := heap_alloc2_old _ _ _
  have hb2 : ((wa.alloc (.cells #[.string f.name, .string f.bytes, .int .i64 (f.synced : Nat)] 54)).alloc (.cells #[.int .i64 0, .slice none 0 0] 33)).heap[wa.heap.size + 1]? = some (.cells #[.int .i64 0, .slice none 0 0] 33 (0, 0)) := heap_alloc2_new _ _ _
  rw [hs1] at hb1 hb2
  have HC := H0.upd0 hub
  have HU2 := Lib.hid (HU1.out.trans hub (fun _ _ h => h))
  clear hub H0 hx1 hs0
  generalize (wa.alloc (.cells #[.string f.name, .string f.bytes, .int .i64 (f.synced : Nat)] 54)).alloc (.cells #[.int .i64 0, .slice none 0 0] 33) = wb at *
  generalize hxb : w.heap.size = xb at *
  have HXB := Lib.hid hxb
  clear hxb hs1 HU1
  have x0 := cell_of_heap hb0 0
  have x1 := cell_of_heap hb0 1
  have f0 := cell_of_heap hb1 0
  simp only [List.getElem?_toArray, List.getElem?_cons_zero, List.getElem?_cons_succ] at x0 x1 f0
  have HC1 := Lib.hid HC
  have HB0 := Lib.hid hb0
  have HB1 := Lib.hid hb1
  have HB2 := Lib.hid hb2
  clear HC hb0 hb1 hb2
  go_wp2_with fail
  refine (find_any HN.out HC1.out f.name).mono ?_
  rintro e w2 ⟨rfl, hu2⟩
  have hc2 := HC1.out.upd0 hu2
  have hput := put_at hsrt f
  have hkn : findI D f.name ≤ D.length := List.findIdx_le_length
  have hd0 := hu2.keep HB0.out (fun f => f)
  have hd1 := hu2.keep HB1.out (fun f => f)
  have hd2 := hu2.keep HB2.out (fun f => f)
  have HU3 := Lib.hid (HU2.out.trans hu2 (fun _ _ h => h))
  have HKB : Hid (findB D f.name = true → findI D f.name < D.length) := fun hb => ((find_get hsrt f.name).1 hb).1
  clear x0 x1 f0 hu2 HB0 HB1 HB2 HU2 HC1
  generalize findI D f.name = k at *
  generalize findB D f.name = b at *
  have HPUT := Lib.hid hput
  clear hput
  have x0 := cell_of_heap hd0 0
  have x1 := cell_of_heap hd0 1
  simp only [List.getElem?_toArray, List.getElem?_cons_zero, List.getElem?_cons_succ] at x0 x1
  have hkn2 : k ≤ n := by rw [HN.out]; exact hkn
  have hct := hc2.take k hkn
  have hcap : n ≤ cap ∧ cap ≤ 9223372036854775807 := by
    obtain ⟨_, a', c', hv, h1, h2, _⟩ := hc2
    simp only [Value.slice.injEq] at hv
    obtain ⟨_, rfl, rfl⟩ := hv
    unfold maxLen at h2
    rw [HN.out]
    omega
  have hl2 : w2.heap.size = w2.heap.size := rfl
  have HD1 := Lib.hid hd1
  have HD0 := Lib.hid hd0
  have HD2 := Lib.hid hd2
  have HC2 := Lib.hid hc2
  have HCT := Lib.hid hct
  clear hd0 hd1 hd2 hc2 hct hl2
  go_wp2_with (at_builtin; refine wpList_append_row rfl _ _ 31 rfl w2.heap.size 54 i0 (.agg #[.string ⟨#[]⟩, .string ⟨#[]⟩, .int .i64 0]) 3 40 Tryz.underlying31 hi hz0 hz1 hz2 rfl (by decide) _ _ _ rfl (World.ownsRow_nil _ _ _ _) _ _ _ rfl HCT.out ?c2 ?c3 ?c4 ?c5 ?_)
  case c2 => exact flatE_cell _
  case c3 => unfold maxLen; simp; omega
  case c4 => simp; omega
  case c5 => exact Nat.le_refl _
  intro v3 w3 hown3 hg3
  have hu3 : Upd (fun _ => False) w2 w3 := (Upd.refl _ w2).of_grown hg3 (fun j hj _ => by cases hj)
  have hlt : (D.take k).length = k := by simp; omega
  have ho3 : OwnF w3 w2.heap.size v3 (D.take k) := by
    unfold OwnF
    rw [hlt]
    simpa [hlt] using hown3
  have hd1 := hu3.keep HD1.out (fun f => f)
  have q0 := cell_of_heap hd1 0
  have q1 := cell_of_heap hd1 1
  have q2 := cell_of_heap hd1 2
  simp only [List.getElem?_toArray, List.getElem?_cons_zero, List.getElem?_cons_succ] at q0 q1 q2
  clear x0 x1 hown3 hg3 hd1
  go_wp2_with (at_builtin; refine wpList_append_row rfl _ _ 31 rfl w2.heap.size 54 i0 (.agg #[.string ⟨#[]⟩, .string ⟨#[]⟩, .int .i64 0]) 3 40 Tryz.underlying31 hi hz0 hz1 hz2 rfl (by decide) _ _ _ rfl (OwnF.upd0 ho3 ((Upd.refl (fun _ => False) _).alloc _)) _ _ _ rfl (files_alloc f) ?c2 ?c3 ?c4 ?c5 ?_)
  case c2 => exact flatE_cell [f]
  case c3 => rw [hlt]; unfold maxLen; simp; omega
  case c4 => rw [hlt]; simp; omega
  case c5 => have := hu3.size; simp; omega
  intro v4 w4 hown4 hg4
  have hu4 : Upd (fun _ => False) w2 w4 := (hu3.alloc (.cells #[.string f.name, .string f.bytes, .int .i64 (f.synced : Nat)] 54)).of_grown hg4 (by intro j hj hj2; have := (ho3.lt j hj).1; omega)
  have ho4 : OwnF w4 w2.heap.size v4 (D.take k ++ [f]) := by
    unfold OwnF
    rw [flatE_append, List.length_append, hlt]
    simpa [hlt] using hown4
  have HO4 := Lib.hid ho4
  have HU4 := Lib.hid hu4
  clear hown4 hg4 q0 q1 q2 ho3 hu3 ho4
  obtain ⟨m, hm⟩ : ∃ m, m = k + if b = true then 1 else 0 := ⟨_, rfl⟩
  have HM := Lib.hid hm
  rw [← hm] at HPUT
  go_upto_if 25 with fail
  go_cut [5] (fun s wx => s = .int .i64 m ∧ w4 = wx)
  case first =>
    cases b with
    | true =>
      simp only [if_true] at hm
      subst hm
      go_wp2_with fail
      go_meet
      case rel => exact ⟨by go_num, rfl⟩
    | false =>
      simp only [Bool.false_eq_true, if_false, Nat.add_zero] at hm
      subst hm
      go_wp2_with fail
      go_meet
      case rel => exact ⟨rfl, rfl⟩
  case rest =>
    obtain ⟨rfl, rfl⟩ := hcut
    clear hm
    have hd0 := hu4.keep HD0.out (fun f => f)
    have hd2 := hu4.keep HD2.out (fun f => f)
    have x0 := cell_of_heap hd0 0
    have x1 := cell_of_heap hd0 1
    have t0 := cell_of_heap hd2 0
    have t1 := cell_of_heap hd2 1
    simp only [List.getElem?_toArray, List.getElem?_cons_zero, List.getElem?_cons_succ] at x0 x1 t0 t1
    have z0 := frozen_of_heap hd2 0 none
    have z1 := frozen_of_heap hd2 1 none
    have HD2' := Lib.hid hd2
    have hmn : m ≤ n := by
      have h1 := HM.out
      have h2 := HN.out
      cases b with
      | true => have := HKB.out rfl; simp at h1; omega
      | false => simp at h1; omega
    have hmi : (m : Int) ≤ (n : Int) := by omega
    have hrow := Lib.hid (FilesAt.drop HN.out (HC2.out.upd0 hu4) m hmn)
    have hsl : (D.drop m).length = n - m := by simp; have := HN.out; omega
    have HO4' := Lib.hid (OwnF.upd0 HO4.out ((Upd.refl (fun _ => False) w4).drew))
    have HROW := Lib.hid (hrow.out.upd0 ((Upd.refl (fun _ => False) w4).drew))
    have b1 : (D.take k ++ [f]).length + (D.drop m).length ≤ maxLen := by rw [hsl]; unfold maxLen; simp; omega
    have b2 : ((D.take k ++ [f]).length + (D.drop m).length) * 40 ≤ 140737488355328 := by rw [hsl]; simp; omega
    have b3 : w2.heap.size ≤ w4.drew.heap.size := by have := hu4.size; simp; omega
    clear hd0 hd2 hrow
    go_wp2_with fail
    go_region_law (refine step_append_mine rfl (.tmp 30) (.tmp 34) 31 rfl w2.heap.size 54 i0 (.agg #[.string ⟨#[]⟩, .string ⟨#[]⟩, .int .i64 0]) 3 40 Tryz.underlying31 hi hz0 hz1 hz2 rfl (by decide) v4 _ _ (by simp [Act.eval, Act.put]) HO4'.out _ _ _ (by simp [Act.eval, Act.put]) HROW.out (flatE_cell _) b1 b2 b3 ?_; intro v5 w5 hown5 hg5; have hu5 : Upd (fun _ => False) w2 w5 := (HU4.out.drew).of_grown hg5 (by intro j hj hj2; have := (HO4'.out.lt j hj).1; omega); have he2 := hu5.keep HD2.out (fun f => f); have s0 := cell_of_heap (hu5.keep HD0.out (fun f => f)) 0; have s1 := cell_of_heap he2 0; have s2 := cell_of_heap he2 1; have s3 := frozen_of_heap he2 0 none; have s4 := frozen_of_heap he2 1 none; simp only [List.getElem?_toArray, List.getElem?_cons_zero, List.getElem?_cons_succ] at s0 s1 s2; have HE2 := Lib.hid he2; have HU5 := Lib.hid hu5; have ho5 : OwnF w5 w2.heap.size v5 (D.take k ++ [f] ++ D.drop m) := (by unfold OwnF; rw [flatE_append _ (D.drop m), List.length_append (bs := D.drop m)]; exact hown5); clear hown5; obtain ⟨va, vc, rfl⟩ := ho5.slice; have HO5 := Lib.hid ho5; clear ho5 hg5 hu5 he2)
    all_goals go_wp2_with fail
    all_goals try simp only [Exit.inBlock, Exit.then]
    all_goals refine bodyPost_ret (results_cell_row rfl _ _ (xb + 1 + 1) 33 _ (0, 0) _ rfl (cells2 HE2.out) Tryz.underlying33 rfl (by kernel_rfl)) rfl ?_
    all_goals
      have hfin := HPUT.out
      rw [← List.append_assoc] at hfin
      rw [hfin]
      have el : (D.take k ++ [f] ++ D.drop m).length = k + (n - m + 1) := by
        rw [List.length_append, List.length_append, hlt, hsl]
        simp only [List.length_cons, List.length_nil]
        omega
      exact ⟨va, vc, by rw [el], RowAt.upd_own (S := fun i => i = xb + 1 + 1) (HO5.out.files) upd2 (fun g hg e => by have := (HO5.out.lt g hg).1; have := lt_of_heap HD2.out; omega), (HU3.out.trans HU5.out (fun _ _ h => h)).trans (upd2 (b := xb + 1 + 1)) (fun i hi e => by have := HXB.out; omega), fun g hg => by have := (HO5.out.lt g hg).1; have := HU3.out.size; omega⟩
end Go.Proofs.YtgkegfgdpekehaaGreat
