/- A disk as a plain list of files in the order of their names; no program in sight. -/
import Derived.Maps.OwnSet
namespace Go.Acre.Dk
open Go.WideShapes

/-- a file: its name, its bytes, how many first ones are synced -/
structure Ent where
  name : ByteArray
  bytes : ByteArray
  synced : Nat

def key (s : ByteArray) : Lit := .string s.data.toList
theorem key_inj {a b : ByteArray} (h : key a = key b) : a = b := by
  simp only [key, Lit.string.injEq] at h
  exact ByteArray.ext (Array.ext' h)
def bf (a b : ByteArray) : Bool := (key a).before (key b)
theorem bf_irrefl (a : ByteArray) : bf a a = false := before_irrefl _
theorem bf_trans {a b c : ByteArray} (h : bf a b = true) (k : bf b c = true) : bf a c = true := before_trans h k
theorem bf_total {a b : ByteArray} (h : a ≠ b) : bf a b = true ∨ bf b a = true :=
  Go.ChangeMaps.before_total ⟨_, rfl⟩ ⟨_, rfl⟩ (fun e => h (key_inj e))
theorem bf_ne {a b : ByteArray} (h : bf a b = true) : a ≠ b := fun e => by rw [e, bf_irrefl] at h; cases h
theorem bf_asymm {a b : ByteArray} (h : bf a b = true) : bf b a = false := by
  cases hb : bf b a with
  | false => rfl
  | true => have := bf_trans h hb; rw [bf_irrefl] at this; cases this

/-! ### lists of things with names, in their order -/
section
variable {α : Type} (nm : α → ByteArray)
def Srt (l : List α) : Prop := l.Pairwise fun x y => bf (nm x) (nm y) = true
def ins (x : α) : List α → List α
  | [] => [x]
  | y :: r => if bf (nm x) (nm y) = true then x :: y :: r else y :: ins x r
def drop (k : ByteArray) (l : List α) : List α := l.filter fun x => decide (nm x ≠ k)
def put (x : α) (l : List α) : List α := ins nm x (drop nm (nm x) l)
def get (l : List α) (k : ByteArray) : Option α := l.find? fun x => decide (nm x = k)

theorem mem_ins {x y : α} {l : List α} : y ∈ ins nm x l ↔ y = x ∨ y ∈ l := by
  induction l with
  | nil => simp [ins]
  | cons z r ih =>
    unfold ins
    split
    · simp
    · simp only [List.mem_cons, ih]
      constructor
      · rintro (h | h | h)
        · exact .inr (.inl h)
        · exact .inl h
        · exact .inr (.inr h)
      · rintro (h | h | h)
        · exact .inr (.inl h)
        · exact .inl h
        · exact .inr (.inr h)
theorem mem_drop {x : α} {k : ByteArray} {l : List α} : x ∈ drop nm k l ↔ x ∈ l ∧ nm x ≠ k := by simp [drop]
theorem srt_drop {l : List α} (h : Srt nm l) (k : ByteArray) : Srt nm (drop nm k l) := List.Pairwise.filter _ h
theorem srt_ins {x : α} {l : List α} (h : Srt nm l) (hx : ∀ y ∈ l, nm y ≠ nm x) : Srt nm (ins nm x l) := by
  induction l with
  | nil => simp [ins, Srt]
  | cons z r ih =>
    obtain ⟨h1, h2⟩ := List.pairwise_cons.1 h
    unfold ins
    split
    · rename_i hb
      refine List.pairwise_cons.2 ⟨fun y hy => ?_, h⟩
      rcases List.mem_cons.1 hy with rfl | hy
      · exact hb
      · exact bf_trans hb (h1 y hy)
    · rename_i hb
      have hzx : bf (nm z) (nm x) = true := by
        rcases bf_total (hx z (by simp)) with h | h
        · exact h
        · exact absurd h hb
      refine List.pairwise_cons.2 ⟨fun y hy => ?_, ih h2 (fun y hy => hx y (by simp [hy]))⟩
      rcases (mem_ins nm).1 hy with rfl | hy
      · exact hzx
      · exact h1 y hy
theorem srt_put {x : α} {l : List α} (h : Srt nm l) : Srt nm (put nm x l) :=
  srt_ins nm (srt_drop nm h _) (fun y hy => ((mem_drop nm).1 hy).2)
theorem mem_put {x y : α} {l : List α} : y ∈ put nm x l ↔ y = x ∨ (y ∈ l ∧ nm y ≠ nm x) := by
  unfold put; rw [mem_ins, mem_drop]
theorem srt_eq {x y : α} {l : List α} (h : Srt nm l) (hx : x ∈ l) (hy : y ∈ l) (e : nm x = nm y) : x = y := by
  induction l with
  | nil => cases hx
  | cons z r ih =>
    obtain ⟨h1, h2⟩ := List.pairwise_cons.1 h
    rcases List.mem_cons.1 hx with rfl | hx' <;> rcases List.mem_cons.1 hy with rfl | hy'
    · rfl
    · exact absurd e (bf_ne (h1 y hy'))
    · exact absurd e.symm (bf_ne (h1 x hx'))
    · exact ih h2 hx' hy'
theorem get_some {l : List α} {k : ByteArray} {x : α} (h : get nm l k = some x) : x ∈ l ∧ nm x = k :=
  ⟨List.mem_of_find?_eq_some h, by simpa using List.find?_some h⟩
theorem get_none {l : List α} {k : ByteArray} (h : get nm l k = none) : ∀ x ∈ l, nm x ≠ k := by
  intro x hx
  have := List.find?_eq_none.1 h x hx
  simpa using this
theorem get_of {l : List α} (h : Srt nm l) {x : α} (hx : x ∈ l) : get nm l (nm x) = some x := by
  cases hg : get nm l (nm x) with
  | none => exact absurd rfl (get_none nm hg x hx)
  | some y =>
    obtain ⟨hy, e⟩ := get_some nm hg
    rw [srt_eq nm h hy hx e]
theorem get_of_none {l : List α} {k : ByteArray} (h : ∀ x ∈ l, nm x ≠ k) : get nm l k = none := by
  unfold get
  rw [List.find?_eq_none]
  intro x hx
  simpa using h x hx
theorem drop_none {l : List α} {k : ByteArray} (h : get nm l k = none) : drop nm k l = l := by
  unfold drop
  rw [List.filter_eq_self]
  intro x hx
  simpa using get_none nm h x hx
theorem drop_mid {l1 l2 : List α} {y : α} (h : Srt nm (l1 ++ y :: l2)) : drop nm (nm y) (l1 ++ y :: l2) = l1 ++ l2 := by
  obtain ⟨h1, h2, h3⟩ := List.pairwise_append.1 h
  obtain ⟨h4, h5⟩ := List.pairwise_cons.1 h2
  unfold drop
  rw [List.filter_append, List.filter_cons_of_neg (by simp)]
  congr 1
  · rw [List.filter_eq_self]
    intro x hx
    simpa using bf_ne (h3 x hx y (by simp))
  · rw [List.filter_eq_self]
    intro x hx
    simpa using (bf_ne (h4 x hx)).symm
theorem ins_mid {l1 l2 : List α} {x : α} (h1 : ∀ z ∈ l1, bf (nm z) (nm x) = true) (h2 : ∀ z ∈ l2, bf (nm x) (nm z) = true) : ins nm x (l1 ++ l2) = l1 ++ x :: l2 := by
  induction l1 with
  | nil =>
    cases l2 with
    | nil => rfl
    | cons z r => simp [ins, h2 z (by simp)]
  | cons z r ih =>
    simp only [List.cons_append, ins]
    rw [if_neg (by rw [bf_asymm (h1 z (by simp))]; simp), ih (fun y hy => h1 y (by simp [hy]))]
theorem put_mid {l1 l2 : List α} {x y : α} (h : Srt nm (l1 ++ y :: l2)) (e : nm x = nm y) : put nm x (l1 ++ y :: l2) = l1 ++ x :: l2 := by
  obtain ⟨h1, h2, h3⟩ := List.pairwise_append.1 h
  obtain ⟨h4, h5⟩ := List.pairwise_cons.1 h2
  unfold put
  rw [e, drop_mid nm h, ins_mid nm (fun z hz => by rw [e]; exact h3 z hz y (by simp)) (fun z hz => by rw [e]; exact h4 z hz)]
/-- what is put where it stands changes nothing -/
theorem put_self {l : List α} (h : Srt nm l) {x : α} (hx : x ∈ l) : put nm x l = l := by
  obtain ⟨l1, l2, rfl⟩ := List.append_of_mem hx
  exact put_mid nm h rfl
theorem drop_drop {l : List α} {k : ByteArray} : drop nm k (drop nm k l) = drop nm k l := by
  unfold drop
  rw [List.filter_filter]
  simp
theorem put_drop_self {l : List α} {x : α} : put nm x (drop nm (nm x) l) = put nm x l := by
  unfold put; rw [drop_drop]
theorem drop_ins {y : α} {l : List α} : drop nm (nm y) (ins nm y l) = drop nm (nm y) l := by
  induction l with
  | nil => simp [ins, drop]
  | cons z r ih =>
    unfold ins
    split
    · unfold drop
      rw [List.filter_cons_of_neg (by simp)]
    · unfold drop at ih ⊢
      simp only [List.filter_cons, ih]
theorem put_put {x y : α} {l : List α} (e : nm x = nm y) : put nm x (put nm y l) = put nm x l := by
  unfold put
  rw [e, drop_ins, drop_drop]
theorem ins_perm (x : α) (l : List α) : (ins nm x l).Perm (x :: l) := by
  induction l with
  | nil => exact List.Perm.refl _
  | cons y r ih =>
    unfold ins
    split
    · exact List.Perm.refl _
    · exact (List.Perm.cons y ih).trans (List.Perm.swap x y r)
theorem get_put {x : α} {l : List α} (h : Srt nm l) : get nm (put nm x l) (nm x) = some x := get_of nm (srt_put nm h) ((mem_put nm).2 (.inl rfl))
variable {β : Type} (mb : β → ByteArray) (f : α → β)
theorem map_ins (hf : ∀ x, mb (f x) = nm x) (x : α) (l : List α) : (ins nm x l).map f = ins mb (f x) (l.map f) := by
  induction l with
  | nil => rfl
  | cons y r ih =>
    simp only [ins, List.map_cons, hf]
    split
    · rfl
    · simp [ih]
theorem map_drop (hf : ∀ x, mb (f x) = nm x) (k : ByteArray) (l : List α) : (drop nm k l).map f = drop mb k (l.map f) := by
  unfold drop
  rw [List.filter_map]
  congr 1
  apply List.filter_congr
  intro x _
  simp [Function.comp, hf]
theorem map_put (hf : ∀ x, mb (f x) = nm x) (x : α) (l : List α) : (put nm x l).map f = put mb (f x) (l.map f) := by
  unfold put
  rw [map_ins nm mb f hf, map_drop nm mb f hf, hf]
theorem map_get (hf : ∀ x, mb (f x) = nm x) (k : ByteArray) (l : List α) : get mb (l.map f) k = (get nm l k).map f := by
  unfold get
  rw [List.find?_map]
  congr 2
  funext x
  simp [Function.comp, hf]
theorem map_srt (hf : ∀ x, mb (f x) = nm x) {l : List α} : Srt mb (l.map f) ↔ Srt nm l := by
  unfold Srt
  rw [List.pairwise_map]
  simp only [hf]
end

/-! ### files -/
abbrev Files := List Ent
abbrev En := Ent.name
def total (D : Files) : Nat := (D.map fun f => f.bytes.size).sum
theorem total_ins (x : Ent) (D : Files) : total (ins En x D) = x.bytes.size + total D := by
  induction D with
  | nil => simp [ins, total]
  | cons y r ih =>
    unfold ins
    split
    · simp [total]
    · simp only [total, List.map_cons, List.sum_cons] at ih ⊢
      omega
theorem total_append (a b : Files) : total (a ++ b) = total a + total b := by simp [total]
theorem total_cons (x : Ent) (D : Files) : total (x :: D) = x.bytes.size + total D := by simp [total]
theorem total_drop {D : Files} (h : Srt En D) {k : ByteArray} {f : Ent} (hg : get En D k = some f) : total (drop En k D) + f.bytes.size = total D := by
  obtain ⟨hm, rfl⟩ := get_some En hg
  obtain ⟨l1, l2, rfl⟩ := List.append_of_mem hm
  rw [drop_mid En h, total_append, total_append, total_cons]
  omega
theorem total_put_some {D : Files} (h : Srt En D) {x f : Ent} (hg : get En D x.name = some f) : total (put En x D) + f.bytes.size = total D + x.bytes.size := by
  unfold put
  rw [total_ins]
  have : total (drop En (En x) D) + f.bytes.size = total D := total_drop h hg
  omega
theorem total_put_none {D : Files} {x : Ent} (hg : get En D x.name = none) : total (put En x D) = total D + x.bytes.size := by
  unfold put
  rw [total_ins, drop_none En hg]
  omega
theorem size_le_total {D : Files} {f : Ent} (h : f ∈ D) : f.bytes.size ≤ total D := by
  obtain ⟨l1, l2, rfl⟩ := List.append_of_mem h
  rw [total_append, total_cons]
  omega

def nameOk (s : ByteArray) : Bool := decide (1 ≤ s.size ∧ s.size ≤ 64)
/-- what may be: names in order, each one a name, never more synced than there is, never more than there is room -/
structure May (room : Nat) (D : Files) : Prop where
  srt : Srt En D
  names : ∀ f ∈ D, nameOk f.name = true
  syn : ∀ f ∈ D, f.synced ≤ f.bytes.size
  fits : total D ≤ room

def appendD (room : Nat) (D : Files) (to data : ByteArray) : Files × Nat :=
  if nameOk to = true then
    if data.size ≤ room - total D then
      match get En D to with
      | some f => (put En ⟨to, f.bytes ++ data, f.synced⟩ D, 0)
      | none => (put En ⟨to, data, 0⟩ D, 0)
    else (D, 7)
  else (D, 2)
def syncD (D : Files) (k : ByteArray) : Files × Nat :=
  match get En D k with
  | some f => (put En ⟨k, f.bytes, f.bytes.size⟩ D, 0)
  | none => (D, 5)
def renameD (D : Files) (a b : ByteArray) : Files × Nat :=
  match get En D a with
  | some f => if nameOk b = true then (put En ⟨b, f.bytes, f.synced⟩ (drop En a D), 0) else (D, 2)
  | none => (D, 5)
def removeD (D : Files) (k : ByteArray) : Files × Nat :=
  match get En D k with
  | some _ => (drop En k D, 0)
  | none => (D, 5)
def keepN (z : Int) (u : Nat) : Nat := (if z.tmod ((u : Int) + 1) < 0 then z.tmod ((u : Int) + 1) + ((u : Int) + 1) else z.tmod ((u : Int) + 1)).toNat
def cutE (z : Option Int) (f : Ent) : Ent :=
  let n := match z with | some z => keepN z (f.bytes.size - f.synced) | none => 0
  ⟨f.name, f.bytes.extract 0 (f.synced + n), f.synced + n⟩
def crashD (D : Files) (keep : List Int) : Files := D.mapIdx fun i f => cutE keep[i]? f
def listD (D : Files) (p : ByteArray) : List ByteArray := (D.map (·.name)).filter fun s => p.data.toList.isPrefixOf s.data.toList

theorem keepN_le (z : Int) (u : Nat) : keepN z u ≤ u := by
  unfold keepN
  have h1 := Int.tmod_lt_of_pos z (show (0 : Int) < (u : Int) + 1 by omega)
  have h2 := Int.lt_tmod_of_pos z (show (0 : Int) < (u : Int) + 1 by omega)
  split <;> omega
theorem cutE_synced (z : Option Int) {f : Ent} (h : f.synced ≤ f.bytes.size) : (cutE z f).synced = (cutE z f).bytes.size ∧ (cutE z f).bytes.size ≤ f.bytes.size ∧ f.synced ≤ (cutE z f).synced := by
  unfold cutE
  cases z with
  | none => simp only [ByteArray.size_extract]; omega
  | some z =>
    have := keepN_le z (f.bytes.size - f.synced)
    simp only [ByteArray.size_extract]
    omega

theorem may_nil (room : Nat) : May room [] := ⟨List.Pairwise.nil, by simp, by simp, by simp [total]⟩
theorem May.put {room : Nat} {D : Files} (h : May room D) {x : Ent} (hn : nameOk x.name = true) (hs : x.synced ≤ x.bytes.size) (hf : total (put En x D) ≤ room) : May room (put En x D) := by
  refine ⟨srt_put En h.srt, fun f hf => ?_, fun f hf => ?_, hf⟩
  · rcases (mem_put En).1 hf with rfl | ⟨hf, _⟩
    · exact hn
    · exact h.names f hf
  · rcases (mem_put En).1 hf with rfl | ⟨hf, _⟩
    · exact hs
    · exact h.syn f hf
theorem May.drop {room : Nat} {D : Files} (h : May room D) (k : ByteArray) : May room (drop En k D) := by
  refine ⟨srt_drop En h.srt k, fun f hf => h.names f ((mem_drop En).1 hf).1, fun f hf => h.syn f ((mem_drop En).1 hf).1, ?_⟩
  cases hg : get En D k with
  | none => rw [drop_none En hg]; exact h.fits
  | some f => have := total_drop h.srt hg; have := h.fits; omega
theorem may_append {room : Nat} {D : Files} (h : May room D) (to data : ByteArray) : May room (appendD room D to data).1 := by
  unfold appendD
  split
  · rename_i hn
    split
    · rename_i hd
      have hfit := h.fits
      cases hg : get En D to with
      | none =>
        have ht := total_put_none (x := ⟨to, data, 0⟩) hg
        exact h.put hn (Nat.zero_le _) (by rw [ht]; simp only; omega)
      | some f =>
        have ht := total_put_some h.srt (x := ⟨to, f.bytes ++ data, f.synced⟩) hg
        simp only [ByteArray.size_append] at ht
        have := h.syn f (get_some En hg).1
        exact h.put hn (by simp only [ByteArray.size_append]; omega) (by omega)
    · exact h
  · exact h
theorem may_sync {room : Nat} {D : Files} (h : May room D) (k : ByteArray) : May room (syncD D k).1 := by
  unfold syncD
  cases hg : get En D k with
  | none => exact h
  | some f =>
    obtain ⟨hm, rfl⟩ := get_some En hg
    have ht := total_put_some h.srt (x := ⟨f.name, f.bytes, f.bytes.size⟩) hg
    have := h.fits
    exact h.put (h.names f hm) (Nat.le_refl _) (by show total (put En ⟨f.name, f.bytes, f.bytes.size⟩ D) ≤ room; simp only at ht; omega)
theorem total_put_le {D : Files} (h : Srt En D) (x : Ent) : total (put En x D) ≤ total D + x.bytes.size := by
  cases hg : get En D x.name with
  | none => rw [total_put_none hg]; exact Nat.le_refl _
  | some f => have := total_put_some h hg; omega
theorem may_rename {room : Nat} {D : Files} (h : May room D) (a b : ByteArray) : May room (renameD D a b).1 := by
  unfold renameD
  cases hg : get En D a with
  | none => exact h
  | some f =>
    simp only
    split
    · rename_i hn
      have h2 := total_drop h.srt hg
      have h3 := total_put_le (srt_drop En h.srt a) ⟨b, f.bytes, f.synced⟩
      have := h.fits
      exact (h.drop a).put hn (h.syn f (get_some En hg).1) (by simp only at h3; omega)
    · exact h
theorem may_remove {room : Nat} {D : Files} (h : May room D) (k : ByteArray) : May room (removeD D k).1 := by
  unfold removeD
  cases hg : get En D k with
  | none => exact h
  | some f => exact h.drop k
theorem total_mapIdx_le {D : Files} {g : Nat → Ent → Ent} (h : ∀ i f, f ∈ D → (g i f).bytes.size ≤ f.bytes.size) : total (D.mapIdx g) ≤ total D := by
  induction D generalizing g with
  | nil => simp [total]
  | cons x r ih =>
    rw [List.mapIdx_cons, total_cons, total_cons]
    have h1 := h 0 x (by simp)
    have h2 := ih (g := fun i => g (i + 1)) (fun i f hf => h (i + 1) f (by simp [hf]))
    omega
theorem may_crash {room : Nat} {D : Files} (h : May room D) (keep : List Int) : May room (crashD D keep) := by
  have hnm : (crashD D keep).map En = D.map En := by
    unfold crashD
    apply List.ext_getElem?
    intro i
    simp only [List.getElem?_map, List.getElem?_mapIdx, Option.map_map]
    rfl
  refine ⟨?_, fun f hf => ?_, fun f hf => ?_, ?_⟩
  · unfold Srt
    have h1 : List.Pairwise (fun a b => bf a b = true) (D.map En) := by rw [List.pairwise_map]; exact h.srt
    rw [← hnm, List.pairwise_map] at h1
    exact h1
  · obtain ⟨i, hi, rfl⟩ := List.mem_mapIdx.1 hf
    exact h.names D[i] (List.getElem_mem hi)
  · obtain ⟨i, hi, rfl⟩ := List.mem_mapIdx.1 hf
    exact Nat.le_of_eq (cutE_synced _ (h.syn _ (List.getElem_mem hi))).1
  · exact Nat.le_trans (total_mapIdx_le fun i f hf => (cutE_synced _ (h.syn f hf)).2.1) h.fits

/-! ### files with the blocks in which they lie, and the datum of the map -/
abbrev EB := Ent × Nat
abbrev Bn (x : EB) : ByteArray := x.1.name
def ents (E : List EB) : List (Lit × DataW Nat) := E.map fun x => (key x.1.name, .held x.2)
theorem ents_ins (x : EB) (E : List EB) : ents (ins Bn x E) = DataW.insert (key x.1.name, .held x.2) (ents E) := by
  induction E with
  | nil => rfl
  | cons y r ih =>
    simp only [ins, ents, List.map_cons, DataW.insert] at ih ⊢
    show _ = if bf x.1.name y.1.name = true then _ else _
    split
    · rfl
    · rw [List.map_cons, ih]
theorem same_key (a b : ByteArray) : (key a).sameKey (key b) = decide (a = b) := by
  simp only [key, Lit.sameKey]
  by_cases h : a = b
  · subst h; simp
  · have : a.data.toList ≠ b.data.toList := fun e => h (ByteArray.ext (Array.ext' e))
    simp only [h, decide_false, beq_eq_false_iff_ne]
    exact this
theorem ents_drop (k : ByteArray) (E : List EB) : ents (drop Bn k E) = (ents E).filter fun p => !p.1.sameKey (key k) := by
  unfold ents drop
  rw [List.filter_map]
  congr 1
  apply List.filter_congr
  intro x _
  simp [Function.comp, same_key]
theorem ents_put (x : EB) (E : List EB) : DataW.map (ents (put Bn x E)) = (DataW.map (ents E)).put (key x.1.name) (.held x.2) := by
  unfold put
  rw [ents_ins, ents_drop]
  rfl
theorem ents_del (k : ByteArray) (E : List EB) : DataW.map (ents (drop Bn k E)) = (DataW.map (ents E)).del (key k) := by
  rw [ents_drop]; rfl
theorem ents_at (E : List EB) (k : ByteArray) : (DataW.map (ents E)).atKey (key k) .nil = match get Bn E k with | some x => .held x.2 | none => .nil := by
  simp only [DataW.atKey, ents, get]
  rw [List.find?_map]
  have : ((fun p : Lit × DataW Nat => p.1.sameKey (key k)) ∘ fun x : EB => (key x.1.name, DataW.held x.2)) = fun x => decide (Bn x = k) := by
    funext x
    simp [Function.comp, same_key]
  rw [this]
  cases List.find? (fun x : EB => decide (Bn x = k)) E <;> rfl
end Go.Acre.Dk
