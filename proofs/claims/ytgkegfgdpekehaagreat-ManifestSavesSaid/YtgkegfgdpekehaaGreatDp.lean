/- Plain law behind DiskKeeps: what is put to four files, synced or not, and what a crash leaves. -/
import Derived.Test.YtgkegfgdpekehaaGreatDa
namespace Go.Acre.Dk
def e0 : ByteArray := ⟨#[]⟩
def nms : List ByteArray := [⟨#[97]⟩, ⟨#[98]⟩, ⟨#[97, 98]⟩, ⟨#[99]⟩]
def nmk (k : Nat) : ByteArray := nms.getD k e0
theorem nmk_ok {k : Nat} (h : k < 4) : nameOk (nmk k) = true := by
  rcases (by omega : k = 0 ∨ k = 1 ∨ k = 2 ∨ k = 3) with rfl | rfl | rfl | rfl <;> rfl
theorem nmk_inj {j k : Nat} (hj : j < 4) (hk : k < 4) (h : nmk j = nmk k) : j = k := by
  have h' : (nmk j).data = (nmk k).data := by rw [h]
  rcases (by omega : j = 0 ∨ j = 1 ∨ j = 2 ∨ j = 3) with rfl | rfl | rfl | rfl <;> rcases (by omega : k = 0 ∨ k = 1 ∨ k = 2 ∨ k = 3) with rfl | rfl | rfl | rfl <;> first | rfl | (exfalso; revert h'; decide)
theorem get_put_other {D : Files} {x : Ent} {k : ByteArray} (h : Srt En D) (hk : k ≠ x.name) : get En (put En x D) k = get En D k := by
  cases hg : get En D k with
  | none =>
    refine get_of_none En (fun y hy => ?_)
    rcases (mem_put En).1 hy with rfl | ⟨hy, _⟩
    · exact fun e => hk e.symm
    · exact get_none En hg y hy
  | some y =>
    obtain ⟨hy, e⟩ := get_some En hg
    subst e
    exact get_of En (srt_put En h) ((mem_put En).2 (.inr ⟨hy, hk⟩))
/-- how far the four files have come behind i strings: A what was put, B what was synced -/
structure Kept (i : Nat) (A B : List ByteArray) (D : Files) : Prop where
  la : A.length = 4
  lb : B.length = 4
  may : May 1099511627776 D
  tot : total D ≤ i * 1048576
  there : ∀ k, k < 4 → k < i → get En D (nmk k) = some ⟨nmk k, A.getD k e0, (B.getD k e0).size⟩
  not : ∀ k, k < 4 → i ≤ k → get En D (nmk k) = none ∧ A.getD k e0 = e0 ∧ B.getD k e0 = e0
  le : ∀ k, k < 4 → (B.getD k e0).size ≤ (A.getD k e0).size
  small : ∀ k, k < 4 → (A.getD k e0).size ≤ i * 1048576
theorem kept0 : Kept 0 [e0, e0, e0, e0] [e0, e0, e0, e0] [] :=
  ⟨rfl, rfl, may_nil _, by simp [total], fun _ _ h => absurd h (Nat.not_lt_zero _), fun k hk _ => ⟨rfl, by
    rcases (by omega : k = 0 ∨ k = 1 ∨ k = 2 ∨ k = 3) with rfl | rfl | rfl | rfl <;> exact ⟨rfl, rfl⟩⟩, fun k hk => by
    rcases (by omega : k = 0 ∨ k = 1 ∨ k = 2 ∨ k = 3) with rfl | rfl | rfl | rfl <;> exact Nat.le_refl _, fun k hk => by
    rcases (by omega : k = 0 ∨ k = 1 ∨ k = 2 ∨ k = 3) with rfl | rfl | rfl | rfl <;> exact Nat.le_refl _⟩
theorem getD_set_same {l : List ByteArray} {k : Nat} {x : ByteArray} (h : k < l.length) : (l.set k x).getD k e0 = x := by
  simp [List.getD, h]
theorem getD_set_other {l : List ByteArray} {j k : Nat} {x : ByteArray} (h : k ≠ j) : (l.set k x).getD j e0 = l.getD j e0 := by
  simp [List.getD, List.getElem?_set, h]
theorem kept_append {i : Nat} {A B : List ByteArray} {D : Files} (h : Kept i A B D) {s : ByteArray} (hs : s.size ≤ 1048576) (hi : i < 60) :
    (appendD 1099511627776 D (nmk (i % 4)) s).2 = 0 ∧ Kept (i + 1) (A.set (i % 4) (A.getD (i % 4) e0 ++ s)) B (appendD 1099511627776 D (nmk (i % 4)) s).1 := by
  have hk : i % 4 < 4 := Nat.mod_lt _ (by omega)
  generalize hkk : i % 4 = k at *
  have hfit : s.size ≤ 1099511627776 - total D := by have := h.tot; omega
  have key : appendD 1099511627776 D (nmk k) s = (put En ⟨nmk k, A.getD k e0 ++ s, (B.getD k e0).size⟩ D, 0) := by
    unfold appendD
    rw [if_pos (nmk_ok hk), if_pos hfit]
    by_cases hki : k < i
    · rw [h.there k hk hki]
    · obtain ⟨g, a, b⟩ := h.not k hk (by omega)
      rw [g, a, b]
      rw [show e0 ++ s = s from ByteArray.empty_append]
      rfl
  rw [key]
  refine ⟨rfl, ?_⟩
  have hlen : k < A.length := by rw [h.la]; exact hk
  have hsz := h.small k hk
  have hasz : (A.getD k e0 ++ s).size = (A.getD k e0).size + s.size := ByteArray.size_append
  have htot : total (put En ⟨nmk k, A.getD k e0 ++ s, (B.getD k e0).size⟩ D) ≤ (i + 1) * 1048576 := by
    by_cases hki : k < i
    · have := total_put_some h.may.srt (x := ⟨nmk k, A.getD k e0 ++ s, (B.getD k e0).size⟩) (h.there k hk hki)
      have := h.tot
      simp only at *
      omega
    · obtain ⟨g, a, b⟩ := h.not k hk (by omega)
      have := total_put_none (x := ⟨nmk k, A.getD k e0 ++ s, (B.getD k e0).size⟩) g
      have := h.tot
      have hz : (A.getD k e0).size = 0 := by rw [a]; rfl
      simp only at *
      omega
  refine ⟨by simp [h.la], h.lb, ?_, htot, ?_, ?_, ?_, ?_⟩
  · exact h.may.put (nmk_ok hk) (by have := h.le k hk; simp only; omega) (by omega)
  · intro j hj hji
    by_cases hjk : j = k
    · subst hjk
      rw [getD_set_same hlen]
      exact get_put En h.may.srt
    · rw [getD_set_other (fun e => hjk e.symm), get_put_other h.may.srt (fun e => hjk (nmk_inj hj hk e))]
      exact h.there j hj (by omega)
  · intro j hj hji
    have hjk : j ≠ k := by omega
    rw [getD_set_other (fun e => hjk e.symm), get_put_other h.may.srt (fun e => hjk (nmk_inj hj hk e))]
    exact h.not j hj (by omega)
  · intro j hj
    by_cases hjk : j = k
    · subst hjk
      rw [getD_set_same hlen]
      have := h.le j hj
      omega
    · rw [getD_set_other (fun e => hjk e.symm)]
      exact h.le j hj
  · intro j hj
    by_cases hjk : j = k
    · subst hjk
      rw [getD_set_same hlen]
      omega
    · rw [getD_set_other (fun e => hjk e.symm)]
      exact Nat.le_trans (h.small j hj) (Nat.mul_le_mul_right _ (Nat.le_succ i))
theorem kept_sync {i : Nat} {A B : List ByteArray} {D : Files} (h : Kept (i + 1) A B D) :
    (syncD D (nmk (i % 4))).2 = 0 ∧ Kept (i + 1) A (B.set (i % 4) (A.getD (i % 4) e0)) (syncD D (nmk (i % 4))).1 := by
  have hk : i % 4 < 4 := Nat.mod_lt _ (by omega)
  have hki : i % 4 < i + 1 := by omega
  generalize hkk : i % 4 = k at *
  have hg := h.there k hk hki
  have key : syncD D (nmk k) = (put En ⟨nmk k, A.getD k e0, (A.getD k e0).size⟩ D, 0) := by
    unfold syncD
    rw [hg]
  rw [key]
  refine ⟨rfl, ?_⟩
  have hlen : k < B.length := by rw [h.lb]; exact hk
  have ht := total_put_some h.may.srt (x := ⟨nmk k, A.getD k e0, (A.getD k e0).size⟩) hg
  have ht2 : total (put En ⟨nmk k, A.getD k e0, (A.getD k e0).size⟩ D) = total D := by simp only at ht; omega
  refine ⟨h.la, by simp [h.lb], ?_, by rw [ht2]; exact h.tot, ?_, ?_, ?_, h.small⟩
  · exact h.may.put (nmk_ok hk) (Nat.le_refl _) (by rw [ht2]; exact h.may.fits)
  · intro j hj hji
    by_cases hjk : j = k
    · subst hjk
      rw [getD_set_same hlen]
      exact get_put En h.may.srt
    · rw [getD_set_other (fun e => hjk e.symm), get_put_other h.may.srt (fun e => hjk (nmk_inj hj hk e))]
      exact h.there j hj hji
  · intro j hj hji
    have hjk : j ≠ k := by omega
    rw [getD_set_other (fun e => hjk e.symm), get_put_other h.may.srt (fun e => hjk (nmk_inj hj hk e))]
    exact h.not j hj hji
  · intro j hj
    by_cases hjk : j = k
    · subst hjk
      rw [getD_set_same hlen]
      exact Nat.le_refl _
    · rw [getD_set_other (fun e => hjk e.symm)]
      exact h.le j hj
/-- a crash: names stay, and each file is cut -/
theorem crash_list (D : Files) (zs : List Int) (p : ByteArray) : listD (crashD D zs) p = listD D p := by
  unfold listD crashD
  congr 1
  apply List.ext_getElem
  · simp
  · intro i h1 h2
    simp [cutE]
theorem crash_get {D : Files} {zs : List Int} {k : ByteArray} {f : Ent} (h : Srt En D) (hg : get En D k = some f) : ∃ z, get En (crashD D zs) k = some (cutE z f) := by
  obtain ⟨hm, hn⟩ := get_some En hg
  have hs : Srt En (crashD D zs) := by
    unfold Srt crashD
    rw [List.pairwise_iff_getElem]
    intro i j hi hj hij
    have := List.pairwise_iff_getElem.1 h i j (by simpa using hi) (by simpa using hj) hij
    simpa [cutE] using this
  obtain ⟨i, hi, rfl⟩ := List.getElem_of_mem hm
  refine ⟨zs[i]?, ?_⟩
  have hmem : cutE zs[i]? D[i] ∈ crashD D zs := by
    unfold crashD
    rw [List.mem_iff_getElem]
    exact ⟨i, by simpa using hi, by simp⟩
  have := get_of En hs hmem
  have hn2 : En (cutE zs[i]? D[i]) = k := hn
  rw [hn2] at this
  exact this
theorem cut_twice (z y : Option Int) {f : Ent} (h : f.synced ≤ f.bytes.size) : cutE y (cutE z f) = cutE z f := by
  obtain ⟨h1, h2, h3⟩ := cutE_synced z h
  generalize cutE z f = g at *
  unfold cutE
  have hz : g.bytes.size - g.synced = 0 := by omega
  rw [hz]
  cases g with
  | mk n b sy =>
    simp only at h1 ⊢
    subst h1
    cases y with
    | none => simp only [Nat.add_zero, ByteArray.extract_zero_size]
    | some z =>
      simp only [Nat.le_zero.1 (keepN_le z 0), Nat.add_zero, ByteArray.extract_zero_size]
end Go.Acre.Dk
