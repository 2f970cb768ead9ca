/- States laid as literals, in whatever order: what each operation yields, read. -/
import Derived.Test.YtgkegfgdpekehaaYa
import Derived.Test.YtgkegfgdpekehaaZw
import Derived.Laws.OwnMore
namespace Go.Proofs.Ytgkegfgdpekehaa
open Go.RowKit Go.Acre Go.Acre.Dk
def flatS : List MSt → List Value → List Value
  | s :: S, u :: us => [.int .u64 (s.next : Nat), .int .u64 (s.log : Nat), u] ++ flatS S us
  | _, _ => []
theorem flatS_len : ∀ (S : List MSt) (us : List Value), us.length = S.length → (flatS S us).length = S.length * 3
  | [], [], _ => rfl
  | s :: S, u :: us, h => by
    unfold flatS
    rw [List.length_append, flatS_len S us (by simpa using h), List.length_cons]
    simp
    omega
  | [], u :: us, h => by cases h
  | s :: S, [], h => by cases h
theorem flatS_at : ∀ (S : List MSt) (us : List Value) (_ : us.length = S.length) (i : Nat) (hi : i < S.length) (u : Value), us[i]? = some u → (flatS S us)[i * 3]? = some (.int .u64 (S[i].next : Nat)) ∧ (flatS S us)[i * 3 + 1]? = some (.int .u64 (S[i].log : Nat)) ∧ (flatS S us)[i * 3 + 2]? = some u
  | [], _, _, i, hi, _, _ => by cases hi
  | s :: S, [], h, _, _, _, _ => by cases h
  | s :: S, v :: us, h, 0, _, u, hu => by
    simp only [List.getElem?_cons_zero, Option.some.injEq] at hu
    subst hu
    exact ⟨rfl, rfl, rfl⟩
  | s :: S, v :: us, h, i + 1, hi, u, hu => by
    have ih := flatS_at S us (by simpa using h) i (by simpa using hi) u (by simpa using hu)
    have e1 : (i + 1) * 3 = i * 3 + 3 := by omega
    rw [e1]
    obtain ⟨a, b, c⟩ := ih
    unfold flatS
    refine ⟨?_, ?_, ?_⟩
    · rw [List.getElem?_append_right (by simp)]; simpa using a
    · rw [List.getElem?_append_right (by simp)]; simpa using b
    · rw [List.getElem?_append_right (by simp)]; simpa using c
/-- a slice that holds states -/
def StsAt (w : World) (v : Value) (S : List MSt) : Prop := ∃ us : List Value, us.length = S.length ∧ RowAt w 3 v S.length (flatS S us) ∧ ∀ i (h : i < S.length), ∃ u, us[i]? = some u ∧ LevsAt w u S[i].levels
theorem StsAt.upd0 {w w' : World} {v : Value} {S : List MSt} (h : StsAt w v S) (hu : Upd (fun _ => False) w w') : StsAt w' v S := by
  obtain ⟨us, h1, h2, h3⟩ := h
  exact ⟨us, h1, RowAt.upd0 h2 hu, fun i hi => by obtain ⟨u, a, b⟩ := h3 i hi; exact ⟨u, a, b.upd0 hu⟩⟩
theorem StsAt.slice {w : World} {v : Value} {S : List MSt} (h : StsAt w v S) : ∃ a cap, v = .slice a S.length cap ∧ S.length ≤ cap ∧ cap ≤ maxLen := by
  obtain ⟨_, _, ⟨_, a, cap, rfl, h1, h2, _⟩, _⟩ := h
  exact ⟨a, cap, rfl, h1, h2⟩
theorem StsAt.cell {w : World} {a : Option Addr} {n cap : Nat} {S : List MSt} (h : StsAt w (.slice a n cap) S) {i : Nat} (hi : i < S.length) :
    ∃ g o la lc, a = some ⟨g, o, none⟩ ∧ w.cell? ⟨g, o + i * 3, none⟩ = some (.int .u64 (S[i].next : Nat)) ∧ w.cell? ⟨g, o + i * 3 + 1, none⟩ = some (.int .u64 (S[i].log : Nat)) ∧ w.cell? ⟨g, o + i * 3 + 2, none⟩ = some (.slice la S[i].levels.length lc) ∧ LevsAt w (.slice la S[i].levels.length lc) S[i].levels := by
  obtain ⟨us, hul, ⟨hl, a', c', hv, _, _, _, hc⟩, h3⟩ := h
  simp only [Value.slice.injEq] at hv
  obtain ⟨rfl, rfl, rfl⟩ := hv
  obtain ⟨u, hu, hlev⟩ := h3 i hi
  obtain ⟨la, lc, rfl, h4, h5⟩ := hlev.slice
  have hlen := flatS_len S us hul
  obtain ⟨g, o, hg, hcell⟩ := hc (by intro e; rw [e] at hlen; simp at hlen; omega)
  obtain ⟨x, y, z⟩ := flatS_at S us hul i hi _ hu
  exact ⟨g, o, la, lc, hg, by rw [hcell _ (by omega)]; exact x, by rw [Nat.add_assoc, hcell _ (by omega)]; exact y, by rw [Nat.add_assoc, hcell _ (by omega)]; exact z, hlev⟩
theorem lev_alloc {w : World} (fs : List PF) (h : fs.length ≤ 1000000) : LevAt (w.alloc (.cells (flatP fs).toArray 93)) (.slice (some ⟨w.heap.size, 0, none⟩) fs.length fs.length) fs := by
  refine ⟨flatP_len fs, some ⟨w.heap.size, 0, none⟩, fs.length, rfl, Nat.le_refl _, by unfold maxLen; omega, (fun e => by cases e), fun _ => ⟨_, _, rfl, fun i hi => ?_⟩⟩
  rw [cell_of_heap (heap_alloc _), Nat.zero_add]
  simp
theorem levs_alloc {w : World} {us : List Value} {ls : List (List PF)} (h : us.length = ls.length) (hl : ∀ i (hi : i < ls.length), ∃ u, us[i]? = some u ∧ LevAt w u ls[i]) (hsz : ls.length ≤ 1000000) :
    LevsAt (w.alloc (.cells us.toArray 94)) (.slice (some ⟨w.heap.size, 0, none⟩) ls.length ls.length) ls := by
  have hu : Upd (fun _ => False) w (w.alloc (.cells us.toArray 94)) := (Upd.refl _ w).alloc _
  refine ⟨us, ⟨by omega, some ⟨w.heap.size, 0, none⟩, ls.length, rfl, Nat.le_refl _, by unfold maxLen; omega, (fun e => by cases e), fun _ => ⟨_, _, rfl, fun i hi => ?_⟩⟩, fun i hi => ?_⟩
  · rw [cell_of_heap (heap_alloc _), Nat.zero_add]
    simp
  · obtain ⟨u, h1, h2⟩ := hl i hi
    exact ⟨u, h1, h2.upd0 hu⟩
theorem levs_alloc1 {w : World} {u : Value} {l : List PF} (h : LevAt w u l) : LevsAt (w.alloc (.cells #[u] 94)) (.slice (some ⟨w.heap.size, 0, none⟩) 1 1) [l] :=
  levs_alloc (us := [u]) (ls := [l]) rfl (fun i hi => by
    obtain rfl : i = 0 := by simp at hi; omega
    exact ⟨u, rfl, h⟩) (by simp)
theorem levs_alloc2 {w : World} {u v : Value} {l m : List PF} (h : LevAt w u l) (k : LevAt w v m) : LevsAt (w.alloc (.cells #[u, v] 94)) (.slice (some ⟨w.heap.size, 0, none⟩) 2 2) [l, m] :=
  levs_alloc (us := [u, v]) (ls := [l, m]) rfl (fun i hi => by
    rcases (show i = 0 ∨ i = 1 by simp at hi; omega) with rfl | rfl
    · exact ⟨u, rfl, h⟩
    · exact ⟨v, rfl, k⟩) (by simp)
theorem LevAt.nil (w : World) : LevAt w (.slice none 0 0) [] := RowAt.nil w 4
theorem sts_alloc {w : World} {us : List Value} {S : List MSt} (h : us.length = S.length) (hl : ∀ i (hi : i < S.length), ∃ u, us[i]? = some u ∧ LevsAt w u S[i].levels) (hsz : S.length ≤ 1000000) :
    StsAt (w.alloc (.cells (flatS S us).toArray 45)) (.slice (some ⟨w.heap.size, 0, none⟩) S.length S.length) S := by
  have hu : Upd (fun _ => False) w (w.alloc (.cells (flatS S us).toArray 45)) := (Upd.refl _ w).alloc _
  refine ⟨us, h, ⟨flatS_len S us h, some ⟨w.heap.size, 0, none⟩, S.length, rfl, Nat.le_refl _, by unfold maxLen; omega, (fun e => by cases e), fun _ => ⟨_, _, rfl, fun i hi => ?_⟩⟩, fun i hi => ?_⟩
  · rw [cell_of_heap (heap_alloc _), Nat.zero_add]
    simp
  · obtain ⟨u, h1, h2⟩ := hl i hi
    exact ⟨u, h1, h2.upd0 hu⟩
/-- what an operation yields -/
inductive Rd where
  | val (v : Value)
  | lev (l : List PF)
  | levs (ls : List (List PF))
  | st (s : MSt)
  | sts (S : List MSt)
  | ints (zs : List Int)
def Rd.at (w : World) (v : Value) : Rd → Prop
  | .val x => v = x
  | .lev l => LevAt w v l
  | .levs ls => LevsAt w v ls
  | .st s => ∃ a c, v = .agg #[.int .u64 (s.next : Nat), .int .u64 (s.log : Nat), .slice a s.levels.length c] ∧ LevsAt w (.slice a s.levels.length c) s.levels
  | .sts S => StsAt w v S
  | .ints zs => IntsAt .u8 w v zs
theorem Rd.upd0 {w w' : World} {v : Value} {r : Rd} (h : Rd.at w v r) (hu : Upd (fun _ => False) w w') : Rd.at w' v r := by
  cases r with
  | val x => exact h
  | lev l => exact LevAt.upd0 h hu
  | levs ls => exact LevsAt.upd0 h hu
  | st s => obtain ⟨a, c, h1, h2⟩ := h; exact ⟨a, c, h1, h2.upd0 hu⟩
  | sts S => exact StsAt.upd0 h hu
  | ints zs => exact IntsAt.upd0 h hu
def rdAt (rds : List Rd) (i : Nat) : Rd := rds.getD i (.val undef)
def FV (w0 : World) (rds : List Rd) (L : Nat → Bool) (vs : Nat → Value) (w : World) : Prop := Upd (fun _ => False) w0 w ∧ ∀ i, L i = true → Rd.at w (vs i) (rdAt rds i)
theorem FV.next {w0 w w' : World} {rds : List Rd} {L : Nat → Bool} {vs : Nat → Value} (h : FV w0 rds L vs w) (hu : Upd (fun _ => False) w w') {i : Nat} {v : Value} (hv : Rd.at w' v (rdAt rds i)) : FV w0 rds (setF L i true) (setF vs i v) w' := by
  refine ⟨h.1.trans hu (fun _ _ f => f), fun j hj => ?_⟩
  by_cases e : j = i
  · subst e
    rw [setF_same]
    exact hv
  · rw [setF_other _ _ e] at hj ⊢
    exact Rd.upd0 (h.2 j hj) hu
section
variable {P : Program} {ops : Array Oper} {Q : Exit → Act → World → Prop}
theorem owes_rd {w0 : World} {rds : List Rd} {a0 : Act} {i : Nat} {o : Oper} (ho : ops[i]? = some o) (hS : Single ops)
    (h : ∀ w, Upd (fun _ => False) w0 w → ∀ a : Act,
      (∀ e ∈ o.after, Region.binds .any e = true → ∀ oj d, ops[e.on]? = some oj → oj.dst = some d → d < a0.tmps.size → ∃ v, a.tmps[d]? = some v ∧ Rd.at w v (rdAt rds e.on)) → (∀ d, writer ops d = none → a.tmps[d]? = a0.tmps[d]?) →
      ∀ K : Act → World → Prop, (∀ v w', Upd (fun _ => False) w w' → Rd.at w' v (rdAt rds i) → K (a.put o.dst v) w') →
      if Region.wanted o (yielded ops a.tmps) = true then Oper.wp P o a w K Q else K (a.put o.dst undef) w) : Owes P ops Q a0 (FV w0 rds) i := by
  refine owes_of ho hS ?_
  intro L vs w hV hL hdep fr hfr hfo K hK
  exact h w hV.1 fr (fun e he hb oj d h1 h2 h3 => ⟨vs e.on, hfr e.on oj d h1 h2 (hdep e he hb) h3, hV.2 _ (hdep e he hb)⟩) hfo K (fun v w' h1 h2 => hK v w' (hV.next h1 h2))
end
theorem mk_nils (w : World) {L : Int} {n : Nat} (hL : L = (n : Int)) (h : n ≤ 1000) : ∃ w', (Instr.makeSlice 43 (.int .i64 L) (.int .i64 L)).run Try.prog w = .ok (.slice (some ⟨w.heap.size, 0, none⟩) n n) w' ∧
    LevsAt w' (.slice (some ⟨w.heap.size, 0, none⟩) n n) (List.replicate n []) ∧ Upd (fun _ => False) w w' := by
  subst hL
  obtain ⟨j0, hj, hy0, hy1, hy2⟩ := info_parts info94
  obtain ⟨w', h1, h2, h3⟩ := run_make_full (P := Try.prog) (w := w) w.heap.size 43 94 j0 (.slice none 0 0) 1 Try.underlying43 hj hy0 hy1 .i64 .i64 n (by rw [hy2]; omega) (by unfold maxLen; omega) (Nat.le_refl _)
  refine ⟨w', h1, ⟨(madeCells (Value.slice none 0 0).cells (n * 1)).toList, ?_, fun i hi => ⟨.slice none 0 0, ?_, ?_⟩⟩, (Upd.refl _ _).of_grown h3 (fun k e => by cases e)⟩
  · have := RowAt.of_own h2
    rw [List.length_replicate]
    exact this
  · rw [List.length_replicate] at hi
    have e : (Value.slice none 0 0).cells = #[.slice none 0 0] := rfl
    rw [e]
    unfold madeCells
    simp [hi, Nat.mod_one]
  · rw [List.getElem_replicate]
    exact LevAt.nil _
theorem pf_cells {w : World} {xb : Nat} {a b c d : Value} (h : w.heap[xb]? = some (.cells #[a, b, c, d] 93 (0, 0))) : w.cell? ⟨xb, 0, none⟩ = some a ∧ w.cell? ⟨xb, 1, none⟩ = some b ∧ w.cell? ⟨xb, 2, none⟩ = some c ∧ w.cell? ⟨xb, 3, none⟩ = some d :=
  ⟨cell_of_heap h 0, cell_of_heap h 1, cell_of_heap h 2, cell_of_heap h 3⟩
end Go.Proofs.Ytgkegfgdpekehaa
