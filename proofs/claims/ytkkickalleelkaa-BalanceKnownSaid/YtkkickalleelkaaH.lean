/- Plain: the rows in order, each once: both ways come to the same. -/
import Derived.Test.YtkkickalleelkaaG
namespace Go.Proofs.Ytkkickalleelkaa
open Go.RowKit Go.Acre Go.Sort
theorem less_lt : ∀ a b : List UInt8, Op.bytesLess a b = decide (a < b)
  | [], [] => by simp [Op.bytesLess]
  | [], _ :: _ => by simp [Op.bytesLess]
  | _ :: _, [] => by simp [Op.bytesLess]
  | x :: r, y :: s => by
    rw [Op.bytesLess, less_lt r s, Bool.eq_iff_iff]
    simp [List.cons_lt_cons_iff]
def key (a : ByteArray) : List UInt8 := a.data.toList
theorem key_inj {a b : ByteArray} (h : key a = key b) : a = b := by
  have := congrArg bytesL h
  unfold key at this
  rwa [bytesL_data, bytesL_data] at this
theorem ltB_key (a b : ByteArray) : ltB a b = decide (key a < key b) := by
  unfold ltB key
  rw [less_lt, ByteArray.toList_eq, ByteArray.toList_eq]
theorem eq_of_strict : ∀ {l m : List (List UInt8)}, l.Pairwise (· < ·) → m.Pairwise (· < ·) → (∀ x, x ∈ l ↔ x ∈ m) → l = m
  | [], [], _, _, _ => rfl
  | [], y :: m, _, _, h => absurd ((h y).2 List.mem_cons_self) (by simp)
  | x :: l, [], _, _, h => absurd ((h x).1 List.mem_cons_self) (by simp)
  | x :: l, y :: m, hl, hm, h => by
    rw [List.pairwise_cons] at hl hm
    have hxy : x = y := by
      rcases List.mem_cons.1 ((h x).1 List.mem_cons_self) with e | e
      · exact e
      · rcases List.mem_cons.1 ((h y).2 List.mem_cons_self) with e2 | e2
        · exact e2.symm
        · exact absurd (List.lt_trans (hl.1 y e2) (hm.1 x e)) (List.lt_irrefl _)
    subst hxy
    rw [eq_of_strict hl.2 hm.2 (fun z => ?_)]
    constructor
    · intro hz
      rcases List.mem_cons.1 ((h z).1 (List.mem_cons_of_mem _ hz)) with e | e
      · subst e
        exact absurd (hl.1 z hz) (List.lt_irrefl _)
      · exact e
    · intro hz
      rcases List.mem_cons.1 ((h z).2 (List.mem_cons_of_mem _ hz)) with e | e
      · subst e
        exact absurd (hm.1 z hz) (List.lt_irrefl _)
      · exact e
theorem compact_strict (d : Array (List UInt8)) (hs : ∀ i j, i < j → j < d.size → d[i]! ≤ d[j]!) : ∀ m, m ≤ d.size → (Lib.compactUpTo d m).Pairwise (· < ·) ∧ ∀ x, x ∈ Lib.compactUpTo d m ↔ ∃ i, i < m ∧ d[i]! = x
  | 0, _ => by simp [Lib.compactUpTo]
  | m + 1, hm => by
    obtain ⟨h1, h2⟩ := compact_strict d hs m (by omega)
    rw [Lib.compactUpTo_succ]
    by_cases hk : Lib.keeps d m = true
    · rw [if_pos hk]
      refine ⟨List.pairwise_append.2 ⟨h1, by simp, fun a ha b hb => ?_⟩, fun x => ?_⟩
      · simp only [List.mem_singleton] at hb
        subst hb
        obtain ⟨i, hi, rfl⟩ := (h2 a).1 ha
        have hne : m ≠ 0 := by omega
        have hk2 : d[m - 1]! ≠ d[m]! := by
          intro e
          unfold Lib.keeps at hk
          simp_all
        have hle1 : d[i]! ≤ d[m - 1]! := by
          by_cases hi2 : i = m - 1
          · rw [hi2]; exact List.le_refl _
          · exact hs i (m - 1) (by omega) (by omega)
        have hle2 : d[m - 1]! ≤ d[m]! := hs (m - 1) m (by omega) (by omega)
        have hle := List.le_trans hle1 hle2
        rcases Decidable.em (d[i]! < d[m]!) with h | h
        · exact h
        · have he : d[m]! ≤ d[i]! := h
          exact absurd (List.le_antisymm hle2 (List.le_trans he hle1)) hk2
      · simp only [List.mem_append, List.mem_singleton, h2]
        constructor
        · rintro (⟨i, hi, rfl⟩ | rfl)
          · exact ⟨i, by omega, rfl⟩
          · exact ⟨m, by omega, rfl⟩
        · rintro ⟨i, hi, rfl⟩
          by_cases hi2 : i = m
          · exact .inr (by rw [hi2])
          · exact .inl ⟨i, by omega, rfl⟩
    · rw [if_neg hk, List.append_nil]
      refine ⟨h1, fun x => ?_⟩
      rw [h2]
      have hk2 : m ≠ 0 ∧ d[m - 1]! = d[m]! := by
        unfold Lib.keeps at hk
        simp_all
      constructor
      · rintro ⟨i, hi, rfl⟩
        exact ⟨i, by omega, rfl⟩
      · rintro ⟨i, hi, rfl⟩
        by_cases hi2 : i = m
        · subst hi2
          exact ⟨i - 1, by omega, hk2.2⟩
        · exact ⟨i, by omega, rfl⟩
theorem sortL_le (rows : List ByteArray) : (sortL rows).Pairwise (fun a b => a ≤ b) := by
  have h := List.pairwise_mergeSort (le := fun x y : List UInt8 => decide (x ≤ y)) (fun a b c h1 h2 => by simp only [decide_eq_true_eq] at *; exact List.le_trans h1 h2) (fun a b => by simp only [Bool.or_eq_true, decide_eq_true_eq]; exact List.le_total a b) (rows.map (·.data.toList))
  unfold sortL
  exact h.imp (fun h => by simpa using h)
theorem sortL_mem (rows : List ByteArray) (x : List UInt8) : x ∈ sortL rows ↔ ∃ r, r ∈ rows ∧ key r = x := by
  unfold sortL
  rw [List.mem_mergeSort, List.mem_map]
  exact Iff.rfl
theorem compact_sort (rows : List ByteArray) : (Lib.compact (sortL rows)).Pairwise (· < ·) ∧ ∀ x, x ∈ Lib.compact (sortL rows) ↔ ∃ r, r ∈ rows ∧ key r = x := by
  have hp := sortL_le rows
  have hm := sortL_mem rows
  generalize sortL rows = L at *
  have hs : ∀ i j, i < j → j < L.toArray.size → L.toArray[i]! ≤ L.toArray[j]! := by
    intro i j hij hj
    simp only [List.size_toArray] at hj
    rw [getElem!_pos _ i (by simp; omega), getElem!_pos _ j (by simpa using hj)]
    simp only [List.getElem_toArray]
    exact List.pairwise_iff_getElem.1 hp i j (by omega) hj hij
  obtain ⟨h1, h2⟩ := compact_strict L.toArray hs L.length (by simp)
  refine ⟨h1, fun x => ?_⟩
  rw [← hm]
  unfold Lib.compact
  rw [h2, List.mem_iff_getElem]
  constructor
  · rintro ⟨i, hi, rfl⟩
    exact ⟨i, hi, by rw [getElem!_pos _ i (by simpa using hi)]; simp⟩
  · rintro ⟨i, hi, rfl⟩
    exact ⟨i, hi, by rw [getElem!_pos _ i (by simpa using hi)]; simp⟩
def Strict (D : List ByteArray) : Prop := D.Pairwise (fun a b => key a < key b)
theorem insD_strict {D : List ByteArray} (h : Strict D) (s : ByteArray) : Strict (insD D s) ∧ ∀ x, x ∈ insD D s ↔ x ∈ D ∨ x = s := by
  have hle := posB_le D s
  have hlt := posB_lt D s
  have hge := posB_ge D s
  unfold insD
  generalize posB D s = P at *
  by_cases hp : D[P]? = some s
  · rw [if_pos hp]
    refine ⟨h, fun x => ⟨.inl, ?_⟩⟩
    rintro (hx | rfl)
    · exact hx
    · exact List.mem_of_getElem? hp
  · rw [if_neg hp]
    have hpw := List.pairwise_iff_getElem.1 h
    have hlow : ∀ x ∈ D.take P, key x < key s := by
      intro x hx
      obtain ⟨i, hi, rfl⟩ := List.mem_iff_getElem.1 hx
      rw [List.length_take] at hi
      rw [List.getElem_take]
      have := hlt i (by omega) (by omega)
      rw [ltB_key] at this
      exact of_decide_eq_true this
    have hhigh : ∀ x ∈ D.drop P, key s < key x := by
      intro x hx
      obtain ⟨i, hi, rfl⟩ := List.mem_iff_getElem.1 hx
      rw [List.length_drop] at hi
      rw [List.getElem_drop]
      have h0 : P < D.length := by omega
      have h1 := hge P h0 rfl
      rw [ltB_key, decide_eq_false_iff_not] at h1
      have hne : key s ≠ key D[P] := fun e => hp (by rw [List.getElem?_eq_getElem h0, key_inj e])
      have h3 : key s < key D[P] := by
        rcases Decidable.em (key s < key D[P]) with h | h
        · exact h
        · exact absurd (List.le_antisymm h1 h) hne
      by_cases hi0 : i = 0
      · subst hi0
        exact h3
      · exact List.lt_trans h3 (hpw P (P + i) h0 (by omega) (by omega))
    refine ⟨?_, fun x => ?_⟩
    · unfold Strict
      rw [List.append_assoc]
      refine List.pairwise_append.2 ⟨List.Pairwise.sublist (List.take_sublist _ _) h, ?_, fun a ha b hb => ?_⟩
      · rw [List.singleton_append, List.pairwise_cons]
        exact ⟨hhigh, List.Pairwise.sublist (List.drop_sublist _ _) h⟩
      · rcases List.mem_cons.1 hb with rfl | hb
        · exact hlow a ha
        · exact List.lt_trans (hlow a ha) (hhigh b hb)
    · rw [List.mem_append, List.mem_append, List.mem_singleton]
      have hx : x ∈ D ↔ x ∈ D.take P ∨ x ∈ D.drop P := by
        rw [← List.mem_append, List.take_append_drop]
      rw [hx]
      constructor
      · rintro ((h | h) | h)
        · exact .inl (.inl h)
        · exact .inr h
        · exact .inl (.inr h)
      · rintro ((h | h) | h)
        · exact .inl (.inl h)
        · exact .inr h
        · exact .inl (.inr h)
theorem rD_strict (rows : List ByteArray) : Strict (rD rows) ∧ ∀ x, x ∈ rD rows ↔ x ∈ rows := by
  have : ∀ (rs : List ByteArray) (D : List ByteArray), Strict D → Strict (rs.foldl insD D) ∧ ∀ x, x ∈ rs.foldl insD D ↔ x ∈ D ∨ x ∈ rs := by
    intro rs
    induction rs with
    | nil => intro D hD; exact ⟨hD, fun x => by simp⟩
    | cons r rs ih =>
      intro D hD
      obtain ⟨h1, h2⟩ := insD_strict hD r
      obtain ⟨h3, h4⟩ := ih (insD D r) h1
      refine ⟨h3, fun x => ?_⟩
      rw [List.foldl_cons, h4, h2, List.mem_cons, or_assoc]
  obtain ⟨h1, h2⟩ := this rows [] List.Pairwise.nil
  exact ⟨h1, fun x => by rw [rD, h2]; simp⟩
theorem dist_eq (rows : List ByteArray) : dist rows = rD rows := by
  obtain ⟨h1, h2⟩ := compact_sort rows
  obtain ⟨h3, h4⟩ := rD_strict rows
  have e : Lib.compact (sortL rows) = (rD rows).map key := by
    refine eq_of_strict h1 ?_ (fun x => ?_)
    · rw [List.pairwise_map]
      exact h3
    · rw [h2, List.mem_map]
      constructor
      · rintro ⟨r, hr, rfl⟩
        exact ⟨r, (h4 r).2 hr, rfl⟩
      · rintro ⟨r, hr, rfl⟩
        exact ⟨r, (h4 r).1 hr, rfl⟩
  unfold dist
  rw [e, List.map_map]
  have : (bytesL ∘ key) = id := by funext a; exact bytesL_data a
  rw [this, List.map_id]
end Go.Proofs.Ytkkickalleelkaa
