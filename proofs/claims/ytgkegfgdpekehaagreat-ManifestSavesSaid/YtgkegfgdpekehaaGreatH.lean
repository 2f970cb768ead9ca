/- The walks of Scan, of the reference's Scan and of Same. -/
import Derived.Test.YtgkegfgdpekehaaGreatR
namespace Go.Proofs.YtgkegfgdpekehaaGreat
open Go.RowKit Go.Acre

theorem wp_scope_label {P : Program} {a : Act} {w : World} {Q : Exit → Act → World → Prop} {R : Code} (l : Nat) (J : Act → World → Prop) (μ : Act → World → Nat) (first : J a w)
    (pass : ∀ a w, J a w → R.wp P (Exit.jump l (fun a' w' => J a' w' ∧ μ a' w' < μ a w) Q) a w) : (Code.scope ((Code.label l).seq R)).wp P Q a w := by
  refine wp_scope_jumps l J μ (rest := Code.skip.seq R) (by simp [findLabel]) ?_ ?_
  · refine wp_seq (wp_label ?_)
    exact Code.wp_mono (fun e a w q => by
      cases e <;> first | exact q | exact ⟨q.1, q.2.1⟩) (pass a w first)
  · intro a w hJ
    exact wp_seq (wp_skip (pass a w hJ))
theorem info9 : (Tryz.prog.info? 9).map (fun i => (i.zero, i.size, i.bytes)) = some (some (.string ⟨#[]⟩), 1, 16) := by kernel_rfl
theorem owns_upd {w w' : World} {S : Nat → Prop} {base : Nat} {e : TypeId} {size : Nat} {v : Value} {n : Nat} {xs : List Value} (h : w.ownsRow base e size v n xs) (hu : Upd S w w') (hS : ∀ g, v.ownBlock = some g → ¬ S g) : w'.ownsRow base e size v n xs := by
  refine ⟨h.1, ?_⟩
  rcases h.2 with hn | ⟨g, cap, cur, rfl, hb, hg, rest⟩
  · exact .inl hn
  · exact .inr ⟨g, cap, cur, rfl, hb, hu.keep hg (hS g rfl), rest⟩
theorem strs_oneCell (ss : List ByteArray) : ∀ u ∈ ss.map Value.string, u.oneCell' = true := by
  intro u hu
  obtain ⟨s, _, rfl⟩ := List.mem_map.1 hu
  rfl
def OwnStrs (w : World) (base : Nat) (v : Value) (ss : List ByteArray) : Prop := w.ownsRow base 9 1 v ss.length (ss.map .string)
theorem OwnStrs.upd0 {w w' : World} {base : Nat} {v : Value} {ss : List ByteArray} (h : OwnStrs w base v ss) (hu : Upd (fun _ => False) w w') : OwnStrs w' base v ss := owns_upd h hu (fun _ _ f => f)
/-- what Scan hands back: these strings in new memory, and this number -/
def ScanPost (r : List ByteArray × Nat) (w : World) (e : Ending) (w' : World) : Prop :=
  ∃ v, e = .returned (.tuple #[v, .int .i64 r.2]) ∧ OwnStrs w' w.heap.size v r.1 ∧ Upd (fun _ => False) w w'

/-- what of the bytes has been read, and what is left -/
def Left (s : ByteArray) (k : Nat) (acc : List ByteArray) : Prop := k ≤ s.size ∧ 8 * acc.length ≤ k ∧ scanR s = (acc ++ (scanR (s.extract k s.size)).1, k + (scanR (s.extract k s.size)).2)
theorem Left.start (s : ByteArray) : Left s 0 [] := by
  refine ⟨Nat.zero_le _, by simp, ?_⟩
  have : s.extract 0 s.size = s := by apply nums_inj; rw [nums_extract, List.take_of_length_le (by rw [nums_length]; exact Nat.le_refl _)]; rfl
  rw [this]
  simp
theorem Left.next {s b : ByteArray} {k n : Nat} {acc : List ByteArray} (h : Left s k acc) (ho : openM (s.extract k s.size) = some (b, n)) : Left s (k + n) (acc ++ [b]) ∧ 8 ≤ n := by
  obtain ⟨h1, h2, h3⟩ := h
  obtain ⟨hn, hle, _, _⟩ := openM_bound ho
  rw [ByteArray.size_extract] at hle
  refine ⟨⟨by omega, by simp; omega, ?_⟩, by omega⟩
  rw [h3, scanR_some ho, extract_drop]
  simp [Nat.add_assoc]
theorem Left.last {s : ByteArray} {k : Nat} {acc : List ByteArray} (h : Left s k acc) (ho : openM (s.extract k s.size) = none) : scanR s = (acc, k) := by
  rw [h.2.2, scanR_none ho]; simp

/-- one round of Open, told apart -/
def OpenSome (b : ByteArray) (n : Nat) (w : World) (e : Ending) (w' : World) : Prop := e = .returned (.tuple #[.string b, .int .i64 n, .int .i64 0]) ∧ Upd (fun _ => False) w w'
theorem open_some {s b : ByteArray} {n : Nat} (w : World) (hs : s.size ≤ 9223372036854775807) (h : openM s = some (b, n)) : Calls Tryz.prog 46 #[.string s] w (OpenSome b n w) := by
  have := open_any s w hs
  rw [h] at this
  exact this
theorem open_none {s : ByteArray} (w : World) (hs : s.size ≤ 9223372036854775807) (h : openM s = none) : Calls Tryz.prog 46 #[.string s] w (Fault w) := by
  have := open_any s w hs
  rw [h] at this
  exact this
theorem ropen_some {s b : ByteArray} {n : Nat} (w : World) (hs : s.size ≤ 9223372036854775807) (h : openM s = some (b, n)) : Calls Tryz.prog 54 #[.string s] w (OpenSome b n w) := by
  have := ropen_any s w hs
  rw [h] at this
  exact this
theorem ropen_none {s : ByteArray} (w : World) (hs : s.size ≤ 9223372036854775807) (h : openM s = none) : Calls Tryz.prog 54 #[.string s] w (Fault w) := by
  have := ropen_any s w hs
  rw [h] at this
  exact this

end Go.Proofs.YtgkegfgdpekehaaGreat
