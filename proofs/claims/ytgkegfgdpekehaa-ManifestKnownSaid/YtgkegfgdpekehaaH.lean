/- The walks of Scan, of the reference's Scan and of Same. -/
import Derived.Test.YtgkegfgdpekehaaR
namespace Go.Proofs.Ytgkegfgdpekehaa
open Go.RowKit Go.Acre

theorem wp_scope_label {P : Program} {a : Act} {w : World} {Q : Exit → Act → World → Prop} {R : Code} (l : Nat) (J : Act → World → Prop) (μ : Act → World → Nat) (first : J a w)
    (pass : ∀ a w, J a w → R.wp P (Exit.jump l (fun a' w' => J a' w' ∧ μ a' w' < μ a w) Q) a w) : (Code.scope ((Code.label l).seq R)).wp P Q a w := by
  refine wp_scope_jumps l J μ (rest := Code.skip.seq R) (by simp [findLabel]) ?_ ?_
  · refine wp_seq (wp_label ?_)
    exact Code.wp_mono (fun e a w q => by
      cases e <;> first | exact q | exact ⟨q.1, q.2.1⟩) (pass a w first)
  · intro a w hJ
    exact wp_seq (wp_skip (pass a w hJ))
theorem info9 : (Try.prog.info? 9).map (fun i => (i.zero, i.size, i.bytes)) = some (some (.string ⟨#[]⟩), 1, 16) := by kernel_rfl
theorem owns_upd {w w' : World} {S : Nat → Prop} {base : Nat} {e : TypeId} {size : Nat} {v : Value} {n : Nat} {xs : List Value} (h : w.ownsRow base e size v n xs) (hu : Upd S w w') (hS : ∀ g, v.ownBlock = some g → ¬ S g) : w'.ownsRow base e size v n xs := by
  refine ⟨h.1, ?_⟩
  rcases h.2 with hn | ⟨g, cap, cur, rfl, hb, hg, rest⟩
  · exact .inl hn
  · exact .inr ⟨g, cap, cur, rfl, hb, hu.keep hg (hS g rfl), rest⟩
theorem strs_oneCell (ss : List ByteArray) : ∀ u ∈ ss.map Value.string, u.oneCell' = true := by
  intro u hu
  obtain ⟨s, _, rfl⟩ := List.mem_map.1 hu
  rfl
def OwnStrs (w : World) (base : Nat) (v : Value) (ss : List ByteArray) : Prop := w.ownsRow base 9 1 v ss.length (ss.map .string)
theorem OwnStrs.upd0 {w w' : World} {base : Nat} {v : Value} {ss : List ByteArray} (h : OwnStrs w base v ss) (hu : Upd (fun _ => False) w w') : OwnStrs w' base v ss := owns_upd h hu (fun _ _ f => f)
/-- what Scan hands back: these strings in new memory, and this number -/
def ScanPost (r : List ByteArray × Nat) (w : World) (e : Ending) (w' : World) : Prop :=
  ∃ v, e = .returned (.tuple #[v, .int .i64 r.2]) ∧ OwnStrs w' w.heap.size v r.1 ∧ Upd (fun _ => False) w w'

/-- what of the bytes has been read, and what is left -/
def Left (s : ByteArray) (k : Nat) (acc : List ByteArray) : Prop := k ≤ s.size ∧ 8 * acc.length ≤ k ∧ scanR s = (acc ++ (scanR (s.extract k s.size)).1, k + (scanR (s.extract k s.size)).2)
theorem Left.start (s : ByteArray) : Left s 0 [] := by
  refine ⟨Nat.zero_le _, by simp, ?_⟩
  have : s.extract 0 s.size = s := by apply nums_inj; rw [nums_extract, List.take_of_length_le (by rw [nums_length]; exact Nat.le_refl _)]; rfl
  rw [this]
  simp
theorem Left.next {s b : ByteArray} {k n : Nat} {acc : List ByteArray} (h : Left s k acc) (ho : openM (s.extract k s.size) = some (b, n)) : Left s (k + n) (acc ++ [b]) ∧ 8 ≤ n := by
  obtain ⟨h1, h2, h3⟩ := h
  obtain ⟨hn, hle, _, _⟩ := openM_bound ho
  rw [ByteArray.size_extract] at hle
  refine ⟨⟨by omega, by simp; omega, ?_⟩, by omega⟩
  rw [h3, scanR_some ho, extract_drop]
  simp [Nat.add_assoc]
theorem Left.last {s : ByteArray} {k : Nat} {acc : List ByteArray} (h : Left s k acc) (ho : openM (s.extract k s.size) = none) : scanR s = (acc, k) := by
  rw [h.2.2, scanR_none ho]; simp

/-- one round of Open, told apart -/
def OpenSome (b : ByteArray) (n : Nat) (w : World) (e : Ending) (w' : World) : Prop := e = .returned (.tuple #[.string b, .int .i64 n, .int .i64 0]) ∧ Upd (fun _ => False) w w'
theorem open_some {s b : ByteArray} {n : Nat} (w : World) (hs : s.size ≤ 9223372036854775807) (h : openM s = some (b, n)) : Calls Try.prog 25 #[.string s] w (OpenSome b n w) := by
  have := open_any s w hs
  rw [h] at this
  exact this
theorem open_none {s : ByteArray} (w : World) (hs : s.size ≤ 9223372036854775807) (h : openM s = none) : Calls Try.prog 25 #[.string s] w (Fault w) := by
  have := open_any s w hs
  rw [h] at this
  exact this
theorem ropen_some {s b : ByteArray} {n : Nat} (w : World) (hs : s.size ≤ 9223372036854775807) (h : openM s = some (b, n)) : Calls Try.prog 26 #[.string s] w (OpenSome b n w) := by
  have := ropen_any s w hs
  rw [h] at this
  exact this
theorem ropen_none {s : ByteArray} (w : World) (hs : s.size ≤ 9223372036854775807) (h : openM s = none) : Calls Try.prog 26 #[.string s] w (Fault w) := by
  have := ropen_any s w hs
  rw [h] at this
  exact this

set_option maxHeartbeats 2000000 in
set_option maxRecDepth 100000 in
theorem rscan_any (s : ByteArray) (w : World) (hs : s.size ≤ 1099511627776) : Calls Try.prog 28 #[.string s] w (ScanPost (scanR s) w) := by
  obtain ⟨i0, hi, hz0, hz1, hz2⟩ := info_parts info9
  go_enter Try.func28, Try.ntmps28
  go_wp2_with fail
  go_loopw [4, 5] (fun v k wr => ∃ (n : Nat) (acc : List ByteArray), k = .int .i64 n ∧ Left s n acc ∧ OwnStrs wr w.heap.size v acc ∧ Upd (fun _ => False) w wr) (fun _ k _ => s.size - (intOf k).toNat)
  case atStart => exact ⟨0, [], rfl, Left.start s, World.ownsRow_nil _ _ _ _, Upd.refl _ _⟩
  case round =>
    obtain ⟨n, acc, rfl, hl, ho, hu⟩ := hrel
    have hn := hl.1
    have hn2 : (n : Int) ≤ (s.size : Int) := by omega
    have hn3 := hl.2.1
    have hn0 : (0 : Int) ≤ (n : Int) := by omega
    have HL := Lib.hid hl
    clear hl
    cases hop : openM (s.extract n s.size) with
    | none =>
      have HE := Lib.hid (HL.out.last hop)
      have HOP := Lib.hid hop
      clear hop HL
      go_wp2_with fail
      refine (ropen_none _ (by rw [ByteArray.size_extract]; omega) HOP.out).mono ?_
      rintro e w1 ⟨rfl, hu1⟩
      clear HOP
      go_wp2_with fail
      go_ret2
      rw [HE.out]
      exact ⟨_, rfl, OwnStrs.upd0 ho hu1, hu.trans hu1 (fun _ _ h => h)⟩
    | some r =>
      obtain ⟨b, m⟩ := r
      have HX := Lib.hid (HL.out.next hop)
      have hb := openM_bound hop
      rw [ByteArray.size_extract] at hb
      have hnm : n + m ≤ s.size := by omega
      clear hb
      have HOP := Lib.hid hop
      clear hop HL
      go_wp2_with fail
      refine (ropen_some _ (by rw [ByteArray.size_extract]; omega) HOP.out).mono ?_
      rintro e w1 ⟨rfl, hu1⟩
      clear HOP
      have ho1 := OwnStrs.upd0 ho hu1
      have hu2 := hu.trans hu1 (fun _ _ h => h)
      clear ho hu hu1
      go_wp2_with (at_builtin; refine wpList_append_row rfl _ _ 36 rfl w.heap.size 9 i0 (.string ⟨#[]⟩) 1 16 Try.underlying36 hi hz0 hz1 hz2 rfl (by decide) _ _ _ rfl (ho1.alloc _) _ _ _ rfl (strs_alloc [b] (by simp)) ?c2 ?c3 ?c4 ?c5 ?_)
      case c2 => exact strs_oneCell [b]
      case c3 => unfold maxLen; simp; omega
      case c4 => simp; omega
      case c5 => have := hu2.size; simp; omega
      intro v' w2 hown2 hg2
      have hu3 := (hu2.alloc (.cells #[.string b] 9)).of_grown hg2 (by intro j hj hj2; have := (ho1.lt j hj).1; omega)
      go_wp2_with fail
      go_roundw
      case rel => exact ⟨n + m, acc ++ [b], by go_num, HX.out.1, by unfold OwnStrs; simpa using hown2, hu3⟩
      case measure => have := HX.out.2; simp [intOf]; omega
set_option maxHeartbeats 2000000 in
set_option maxRecDepth 100000 in
theorem scan_any (s : ByteArray) (w : World) (hs : s.size ≤ 1099511627776) : Calls Try.prog 27 #[.string s] w (ScanPost (scanR s) w) := by
  obtain ⟨i0, hi, hz0, hz1, hz2⟩ := info_parts info9
  go_enter Try.func27, Try.ntmps27
  refine wp_seq_k fun K hK => ?_
  have HK := Lib.hid hK
  clear hK
  go_wp2_with fail
  refine HK.out _ _ ?_
  clear HK K
  refine wp_scope_label 0 (fun a wr => ∃ (n : Nat) (acc : List ByteArray) (v u4 u5 u6 u7 u8 u9 u10 u11 u12 u13 u14 u15 u16 u17 u18 u19 u20 u21 u22 u23 u24 u25 : Value), Hid (Left s n acc) ∧ OwnStrs wr w.heap.size v acc ∧ Upd (fun _ => False) w wr ∧ a = ⟨#[.string s, undef, v, .int .i64 n, u4, u5, u6, u7, u8, u9, u10, u11, u12, u13, u14, u15, u16, u17, u18, u19, u20, u21, u22, u23, u24, u25], []⟩)
    (fun a _ => s.size - (intOf (a.tmps.getD 3 undef)).toNat) ?first ?pass
  case first =>
    exact ⟨0, [], .slice none 0 0, undef, undef, undef, undef, undef, undef, undef, undef, undef, undef, undef, undef, undef, undef, undef, undef, undef, undef, undef, undef, undef, undef, Left.start s, World.ownsRow_nil _ _ _ _, Upd.refl _ _, rfl⟩
  case pass =>
    rintro _ wr ⟨n, acc, v, u4, u5, u6, u7, u8, u9, u10, u11, u12, u13, u14, u15, u16, u17, u18, u19, u20, u21, u22, u23, u24, u25, HL, ho, hu, rfl⟩
    have hl := HL.out
    have hn := hl.1
    have hn2 : (n : Int) ≤ (s.size : Int) := by omega
    have hn3 := hl.2.1
    have hn0 : (0 : Int) ≤ (n : Int) := by omega
    clear hl
    cases hop : openM (s.extract n s.size) with
    | none =>
      have HE := Lib.hid (HL.out.last hop)
      have HOP := Lib.hid hop
      clear hop HL
      go_wp2_with go_step3
      refine (open_none _ (by rw [ByteArray.size_extract]; omega) HOP.out).mono ?_
      rintro e w1 ⟨rfl, hu1⟩
      clear HOP
      go_wp2_with go_step3
      rw [Exit.jump_ret]
      go_ret2
      rw [HE.out]
      exact ⟨_, rfl, OwnStrs.upd0 ho hu1, hu.trans hu1 (fun _ _ h => h)⟩
    | some r =>
      obtain ⟨b, m⟩ := r
      have HX := Lib.hid (HL.out.next hop)
      have hb := openM_bound hop
      rw [ByteArray.size_extract] at hb
      have hnm : n + m ≤ s.size := by omega
      clear hb
      have HOP := Lib.hid hop
      clear hop HL
      go_wp2_with go_step3
      refine (open_some _ (by rw [ByteArray.size_extract]; omega) HOP.out).mono ?_
      rintro e w1 ⟨rfl, hu1⟩
      clear HOP
      have ho1 := OwnStrs.upd0 ho hu1
      have hu2 := hu.trans hu1 (fun _ _ h => h)
      clear ho hu hu1
      go_wp2_with (first | (at_builtin; refine wpList_append_row rfl _ _ 36 rfl w.heap.size 9 i0 (.string ⟨#[]⟩) 1 16 Try.underlying36 hi hz0 hz1 hz2 rfl (by decide) _ _ _ rfl (ho1.alloc _) _ _ _ rfl (strs_alloc [b] (by simp)) ?c2 ?c3 ?c4 ?c5 ?_) | go_step3)
      case c2 => exact strs_oneCell [b]
      case c3 => unfold maxLen; simp; omega
      case c4 => simp; omega
      case c5 => have := hu2.size; simp; omega
      intro v' w2 hown2 hg2
      have hu3 := (hu2.alloc (.cells #[.string b] 9)).of_grown hg2 (by intro j hj hj2; have := (ho1.lt j hj).1; omega)
      go_wp2_with go_step3
      rw [Exit.jump_goto]
      exact ⟨⟨n + m, acc ++ [b], HX.out.1, v', by unfold OwnStrs; simpa using hown2, hu3, _, _, _, _, _, _, _, _, _, _, _, _, _, _, _, _, _, _, _, _, _, _, rfl⟩, by have := HX.out.2; simp [intOf]; omega⟩
end Go.Proofs.Ytgkegfgdpekehaa
