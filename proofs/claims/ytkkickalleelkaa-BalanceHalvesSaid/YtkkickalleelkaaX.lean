/- Plain: the rows below the middle and those from it on, each once. -/
import Derived.Test.YtkkickalleelkaaH
namespace Go.Proofs.Ytkkickalleelkaa
open Go.RowKit Go.Acre Go.Sort
/-- each row of which P says yes, once -/
def Half (P : ByteArray → Bool) (rows L : List ByteArray) : Prop := L.Nodup ∧ ∀ k, k ∈ L ↔ k ∈ rows ∧ P k = true
theorem Half.nil (P : ByteArray → Bool) : Half P [] [] := ⟨List.nodup_nil, fun k => by simp⟩
theorem Half.add {P : ByteArray → Bool} {rows L : List ByteArray} (h : Half P rows L) {k : ByteArray} (hk : P k = true) (hn : k ∉ L) : Half P (rows ++ [k]) (L ++ [k]) := by
  refine ⟨?_, fun x => ?_⟩
  · rw [List.nodup_append]
    refine ⟨h.1, by simp, fun a ha b hb e => ?_⟩
    rw [List.mem_singleton] at hb
    subst hb
    subst e
    exact hn ha
  · rw [List.mem_append, List.mem_append, h.2, List.mem_singleton]
    constructor
    · rintro (⟨h1, h2⟩ | rfl)
      · exact ⟨.inl h1, h2⟩
      · exact ⟨.inr rfl, hk⟩
    · rintro ⟨h1 | rfl, h2⟩
      · exact .inl ⟨h1, h2⟩
      · exact .inr rfl
theorem Half.stay {P : ByteArray → Bool} {rows L : List ByteArray} (h : Half P rows L) {k : ByteArray} (hk : P k = true → k ∈ L) : Half P (rows ++ [k]) L := by
  refine ⟨h.1, fun x => ?_⟩
  rw [h.2, List.mem_append, List.mem_singleton]
  constructor
  · rintro ⟨h1, h2⟩
    exact ⟨.inl h1, h2⟩
  · rintro ⟨h1 | rfl, h2⟩
    · exact ⟨h1, h2⟩
    · exact (h.2 x).1 (hk h2)
theorem Strict.nodup {D : List ByteArray} (h : Strict D) : D.Nodup := by
  refine List.Pairwise.imp (fun {a b} hab => ?_) h
  intro e
  subst e
  exact List.lt_irrefl _ hab
theorem Half.len {P : ByteArray → Bool} {rows L : List ByteArray} (h : Half P rows L) : L.length = ((rD rows).filter P).length := by
  obtain ⟨h1, h2⟩ := rD_strict rows
  refine List.Perm.length_eq ((List.perm_ext_iff_of_nodup h.1 (h1.nodup.filter _)).2 fun x => ?_)
  rw [h.2, List.mem_filter, h2]
theorem filter_cut {α : Type} (P : α → Bool) (D : List α) (m : Nat) (h1 : ∀ x ∈ D.take m, P x = true) (h2 : ∀ x ∈ D.drop m, P x = false) : D.filter P = D.take m ∧ D.filter (fun x => !P x) = D.drop m := by
  have e : ∀ Q : α → Bool, D.filter Q = (D.take m).filter Q ++ (D.drop m).filter Q := fun Q => by rw [← List.filter_append, List.take_append_drop]
  constructor
  · rw [e, List.filter_eq_self.2 h1, List.filter_eq_nil_iff.2 (fun x hx => by rw [h2 x hx]; simp), List.append_nil]
  · rw [e, List.filter_eq_nil_iff.2 (fun x hx => by rw [h1 x hx]; simp), List.filter_eq_self.2 (fun x hx => by rw [h2 x hx]; rfl), List.nil_append]
theorem below_len {D : List ByteArray} (h : Strict D) {m : Nat} (hm : m < D.length) : (D.filter fun k => ltB k D[m]).length = m ∧ (D.filter fun k => !ltB k D[m]).length = D.length - m := by
  have hp := List.pairwise_iff_getElem.1 h
  obtain ⟨e1, e2⟩ := filter_cut (fun k => ltB k D[m]) D m (fun x hx => by
    obtain ⟨i, hi, rfl⟩ := List.mem_take_iff_getElem.1 hx
    rw [ltB_key]
    exact decide_eq_true (hp i m (by omega) hm (by omega))) (fun x hx => by
    obtain ⟨i, hi, rfl⟩ := List.mem_drop_iff_getElem.1 hx
    rw [ltB_key]
    refine decide_eq_false (fun hlt => ?_)
    by_cases hi0 : i = 0
    · subst hi0
      exact List.lt_irrefl _ hlt
    · exact List.lt_irrefl _ (List.lt_trans hlt (hp m (m + i) hm (by omega) (by omega))))
  rw [e1, e2, List.length_take, List.length_drop]
  exact ⟨by omega, rfl⟩
/-- both halves against the middle -/
theorem halves_len {rows L R : List ByteArray} {s : ByteArray} (hD : 2 ≤ (rD rows).length) (hs : (rD rows).getD ((rD rows).length / 2) ⟨#[]⟩ = s) (hL : Half (fun k => ltB k s) rows L) (hR : Half (fun k => !ltB k s) rows R) : L.length ≤ R.length ∧ R.length ≤ L.length + 1 ∧ 0 < L.length := by
  have hst := (rD_strict rows).1
  rw [hL.len, hR.len]
  generalize rD rows = D at *
  have hm : D.length / 2 < D.length := by omega
  obtain ⟨h1, h2⟩ := below_len hst hm
  have e : D[D.length / 2] = s := by rw [← hs]; simp [hm]
  rw [e] at h1 h2
  rw [h1, h2]
  omega
/-- the middle is a row, so it is in the range; and above Low where it is not Low -/
theorem middle_in {rows : List ByteArray} (hD : 2 ≤ (rD rows).length) : (rD rows).getD ((rD rows).length / 2) ⟨#[]⟩ ∈ rows := by
  have hm : (rD rows).length / 2 < (rD rows).length := by omega
  rw [← (rD_strict rows).2]
  simp [hm]
theorem le_of_not (lo s : ByteArray) (h : ltB s lo = false) (hne : s ≠ lo) : leB s lo = false := by
  unfold leB
  unfold ltB at h
  rw [h, Bool.false_or]
  simp only [beq_eq_false_iff_ne, ne_eq, ByteArray.toList_eq]
  exact fun e => hne (key_inj e)
end Go.Proofs.Ytkkickalleelkaa
