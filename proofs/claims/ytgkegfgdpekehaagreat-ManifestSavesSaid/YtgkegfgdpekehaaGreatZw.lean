/- A region whose order is drawn, by what holds of what is done so far: one obligation for each operation, none for each order. -/
import Derived.Orders
import Derived.RegionTactic
namespace Go
section
variable {P : Program} {ops : Array Oper} {Q : Exit → Act → World → Prop} {md : Region.Mode}
theorem ready_mem {listed : Array Bool} {i : Nat} (h : i ∈ Region.ready md ops listed) : ∃ o, ops[i]? = some o ∧ listed.getD i true = false ∧ ∀ e ∈ o.after, Region.binds md e = true → listed.getD e.on false = true := by
  unfold Region.ready at h
  rw [List.mem_filter] at h
  obtain ⟨_, h2⟩ := h
  rw [Bool.and_eq_true] at h2
  obtain ⟨h3, h4⟩ := h2
  cases ho : ops[i]? with
  | none => rw [ho] at h4; cases h4
  | some o =>
    rw [ho] at h4
    simp only [Option.map_some, Option.getD_some] at h4
    refine ⟨o, rfl, by simpa using h3, fun e he hb => ?_⟩
    have h5 := Array.all_eq_true'.1 h4 e he
    rw [hb] at h5
    simpa using h5
theorem ready_of {listed : Array Bool} {i : Nat} {o : Oper} (ho : ops[i]? = some o) (h1 : listed.getD i true = false) (h2 : ∀ e ∈ o.after, Region.binds md e = true → listed.getD e.on false = true) : i ∈ Region.ready md ops listed := by
  unfold Region.ready
  rw [List.mem_filter]
  refine ⟨List.mem_range.2 (Array.getElem?_eq_some_iff.1 ho).1, ?_⟩
  rw [Bool.and_eq_true, ho]
  refine ⟨by rw [h1]; rfl, ?_⟩
  simp only [Option.map_some, Option.getD_some]
  refine Array.all_eq_true'.2 fun e he => ?_
  cases hb : Region.binds md e with
  | false => rfl
  | true => simpa using h2 e he hb
/-- no operation waits for a later one -/
def Early (md : Region.Mode) (ops : Array Oper) : Prop := ∀ i o, ops[i]? = some o → ∀ e ∈ o.after, Region.binds md e = true → e.on < i
theorem early_of (h : (List.range ops.size).all (fun i => ((ops[i]?).map fun o => o.after.all fun e => !Region.binds md e || decide (e.on < i)).getD true) = true) : Early md ops := by
  intro i o ho e he hb
  have h1 := List.all_eq_true.1 h i (List.mem_range.2 (Array.getElem?_eq_some_iff.1 ho).1)
  rw [ho] at h1
  simp only [Option.map_some, Option.getD_some] at h1
  have h2 := Array.all_eq_true'.1 h1 e he
  rw [hb] at h2
  simpa using h2
theorem all_listed {listed : Array Bool} (hE : Early md ops) (h : Region.ready md ops listed = []) : ∀ i, i < ops.size → listed.getD i true = true := by
  intro i
  induction i using Nat.strongRecOn with
  | _ i ih =>
    intro hi
    cases hl : listed.getD i true with
    | true => rfl
    | false =>
      have ho : ops[i]? = some ops[i] := Array.getElem?_eq_getElem hi
      have hm : i ∈ Region.ready md ops listed := ready_of ho hl (fun e he hb => by
        have hlt := hE i _ ho e he hb
        have h1 := ih e.on hlt (by omega)
        by_cases hs : e.on < listed.size
        · simpa [Array.getD, hs] using h1
        · exfalso
          have : listed.getD i true = true := by simp [Array.getD]; omega
          rw [this] at hl
          cases hl)
      rw [h] at hm
      cases hm
theorem wpAny_inv (hE : Early md ops) (Inv : Array Bool → Act → World → Prop)
    (hstep : ∀ (listed : Array Bool) (a : Act) (w : World) (i : Nat) (o : Oper), listed.size = ops.size → Inv listed a w → ops[i]? = some o → listed.getD i true = false → (∀ e ∈ o.after, Region.binds md e = true → listed.getD e.on false = true) → wpOp P ops Q i (Inv (listed.setIfInBounds i true)) a w)
    (hend : ∀ (listed : Array Bool) (a : Act) (w : World), listed.size = ops.size → Inv listed a w → (∀ i, i < ops.size → listed.getD i true = true) → Q .normal a w) :
    ∀ (fuel : Nat) (listed : Array Bool) (a : Act) (w : World), listed.size = ops.size → listed.toList.countP (fun b => !b) ≤ fuel → Inv listed a w → wpAny P md ops Q fuel listed a w := by
  intro fuel
  induction fuel with
  | zero =>
    intro listed a w hs hc hI
    have hall : ∀ b ∈ listed.toList, ¬ ((!b) = true) := List.countP_eq_zero.1 (Nat.le_zero.1 hc)
    have hr : Region.ready md ops listed = [] := by
      cases hr : Region.ready md ops listed with
      | nil => rfl
      | cons i r =>
        exfalso
        have hi : i ∈ Region.ready md ops listed := by rw [hr]; simp
        obtain ⟨o, ho, h1, _⟩ := ready_mem hi
        have hlt : i < listed.size := by rw [hs]; exact (Array.getElem?_eq_some_iff.1 ho).1
        have := hall listed[i] (by simp)
        simp [Array.getD, hlt] at h1
        rw [h1] at this
        exact this rfl
    exact ⟨hr, hend listed a w hs hI (all_listed hE hr)⟩
  | succ fuel ih =>
    intro listed a w hs hc hI
    refine ⟨fun hr => hend listed a w hs hI (all_listed hE hr), fun i hi => ?_⟩
    obtain ⟨o, ho, h1, h2⟩ := ready_mem hi
    have hlt : i < listed.size := by rw [hs]; exact (Array.getElem?_eq_some_iff.1 ho).1
    refine wpOp_mono (fun a w h => ih _ a w (by simpa using hs) ?_ h) (hstep listed a w i o hs hI ho h1 h2)
    rw [Array.toList_setIfInBounds, List.countP_set (by simpa using hlt)]
    simp [Array.getD, hlt] at h1
    simp only [Array.getElem_toList, h1]
    have hpos : 0 < listed.toList.countP (fun b => !b) := List.countP_pos_iff.2 ⟨listed[i], by simp, by rw [h1]; rfl⟩
    simp only [Bool.not_false, Bool.not_true, if_true]
    generalize listed.toList.countP (fun b => !b) = c at *
    simp
    omega
theorem wp_region_inv {id : Nat} {a : Act} {w : World} (hm : P.follows .mixedOrders = true) (hE : Early .any ops) (Inv : Array Bool → Act → World → Prop)
    (h0 : Inv (Array.replicate ops.size false) a { w with drawn := w.drawn + 1 })
    (hstep : ∀ (listed : Array Bool) (a : Act) (w : World) (i : Nat) (o : Oper), listed.size = ops.size → Inv listed a w → ops[i]? = some o → listed.getD i true = false → (∀ e ∈ o.after, Region.binds .any e = true → listed.getD e.on false = true) → wpOp P ops Q i (Inv (listed.setIfInBounds i true)) a w)
    (hend : ∀ (listed : Array Bool) (a : Act) (w : World), listed.size = ops.size → Inv listed a w → (∀ i, i < ops.size → listed.getD i true = true) → Q .normal a w) : (Code.region id ops true).wp P Q a w :=
  wp_region_any hm (wpAny_inv hE Inv hstep hend _ _ _ _ (by simp) (by have := List.countP_le_length (p := fun b => !b) (l := (Array.replicate ops.size false).toList); simpa using this) h0)

/-- which operation writes a temporary -/
def writer (ops : Array Oper) (d : Nat) : Option Nat := ops.findIdx? (fun o => o.dst == some d)
def Single (ops : Array Oper) : Prop := ∀ i o d, ops[i]? = some o → o.dst = some d → writer ops d = some i
theorem single_of (h : (List.range ops.size).all (fun i => ((ops[i]?).map fun o => match o.dst with | some d => writer ops d == some i | none => true).getD true) = true) : Single ops := by
  intro i o d ho hd
  have h1 := List.all_eq_true.1 h i (List.mem_range.2 (Array.getElem?_eq_some_iff.1 ho).1)
  rw [ho] at h1
  simp only [Option.map_some, Option.getD_some, hd] at h1
  simpa using h1
theorem writer_dst {d i : Nat} (h : writer ops d = some i) : ∃ o, ops[i]? = some o ∧ o.dst = some d := by
  unfold writer at h
  obtain ⟨hi, h2, _⟩ := Array.findIdx?_eq_some_iff_getElem.1 h
  exact ⟨ops[i], Array.getElem?_eq_getElem hi, by simpa using h2⟩
/-- the frame, where those operations that L names have yielded what vs says -/
def fillA (ops : Array Oper) (L : Nat → Bool) (vs : Nat → Value) (a : Act) : Act :=
  { a with tmps := a.tmps.mapIdx fun d x => match writer ops d with | some i => if L i then vs i else x | none => x }
def setF {α : Type} (f : Nat → α) (i : Nat) (x : α) : Nat → α := fun j => if j = i then x else f j
theorem setF_same {α : Type} (f : Nat → α) (i : Nat) (x : α) : setF f i x i = x := if_pos rfl
theorem setF_other {α : Type} (f : Nat → α) {i j : Nat} (x : α) (h : j ≠ i) : setF f i x j = f j := if_neg h
theorem fill_none (L : Nat → Bool) (vs : Nat → Value) (a : Act) (h : ∀ i, i < ops.size → L i = false) : fillA ops L vs a = a := by
  have e : (a.tmps.mapIdx fun d x => match writer ops d with | some i => if L i then vs i else x | none => x) = a.tmps := by
    apply Array.ext
    · simp
    · intro j h1 h2
      rw [Array.getElem_mapIdx]
      split
      · rename_i i hw
        obtain ⟨o, ho, _⟩ := writer_dst hw
        rw [h i (Array.getElem?_eq_some_iff.1 ho).1]
        rfl
      · rfl
  unfold fillA
  rw [e]
theorem fill_put (hS : Single ops) {L : Nat → Bool} {vs : Nat → Value} {a : Act} {i : Nat} {o : Oper} (ho : ops[i]? = some o) (v : Value) : (fillA ops L vs a).put o.dst v = fillA ops (setF L i true) (setF vs i v) a := by
  unfold fillA
  cases hd : o.dst with
  | none =>
    show Act.mk _ _ = Act.mk _ _
    congr 1
    apply Array.ext
    · simp
    · intro j h1 h2
      rw [Array.getElem_mapIdx, Array.getElem_mapIdx]
      cases hw : writer ops j with
      | none => rfl
      | some k =>
        have hk : k ≠ i := fun e => by
          subst e
          obtain ⟨o2, h3, h4⟩ := writer_dst hw
          rw [ho] at h3
          simp only [Option.some.injEq] at h3
          subst h3
          rw [hd] at h4
          cases h4
        simp only [setF, if_neg hk]
  | some d =>
    have hw := hS i o d ho hd
    show Act.mk _ _ = Act.mk _ _
    congr 1
    apply Array.ext
    · simp
    · intro j h1 h2
      rw [Array.getElem_setIfInBounds, Array.getElem_mapIdx, Array.getElem_mapIdx]
      by_cases hj : d = j
      · subst hj
        rw [if_pos rfl, hw]
        simp only [setF, if_true]
      · rw [if_neg hj]
        cases hw2 : writer ops j with
        | none => rfl
        | some k =>
          have hk : k ≠ i := fun e => by
            subst e
            obtain ⟨o2, h3, h4⟩ := writer_dst hw2
            rw [ho] at h3
            simp only [Option.some.injEq] at h3
            subst h3
            rw [hd] at h4
            simp only [Option.some.injEq] at h4
            exact hj h4
          simp only [setF, if_neg hk]
      · simpa using h1
theorem fill_get (hS : Single ops) {L : Nat → Bool} {vs : Nat → Value} {a : Act} {i : Nat} {o : Oper} {d : Nat} (ho : ops[i]? = some o) (hd : o.dst = some d) (hL : L i = true) (hs : d < a.tmps.size) : (fillA ops L vs a).tmps[d]? = some (vs i) := by
  have hw := hS i o d ho hd
  unfold fillA
  rw [Array.getElem?_mapIdx, Array.getElem?_eq_getElem hs]
  simp [hw, hL]
theorem fill_old {L : Nat → Bool} {vs : Nat → Value} {a : Act} {d : Nat} (hw : writer ops d = none) : (fillA ops L vs a).tmps[d]? = a.tmps[d]? := by
  unfold fillA
  rw [Array.getElem?_mapIdx]
  cases a.tmps[d]? with
  | none => rfl
  | some x => simp [hw]
/-- all that the operations yield, put into the frame -/
def putAll (vs : Nat → Value) : Nat → List Oper → Act → Act
  | _, [], a => a
  | i, o :: r, a => putAll vs (i + 1) r (a.put o.dst (vs i))
theorem putAll_fill (hS : Single ops) (vs : Nat → Value) (a : Act) : ∀ (r : List Oper) (i : Nat), (∀ j (h : j < r.length), ops[i + j]? = some r[j]) → putAll vs i r (fillA ops (fun j => decide (j < i)) vs a) = fillA ops (fun j => decide (j < i + r.length)) vs a
  | [], i, _ => rfl
  | o :: r, i, h => by
    have ho : ops[i]? = some o := h 0 (by simp)
    unfold putAll
    rw [fill_put hS ho]
    have e1 : setF (fun j => decide (j < i)) i true = fun j => decide (j < i + 1) := by
      funext j
      unfold setF
      by_cases hj : j = i
      · subst hj; simp
      · rw [if_neg hj]
        by_cases hk : j < i
        · simp [hk]; omega
        · simp [hk]; omega
    have e2 : setF vs i (vs i) = vs := by
      funext j
      unfold setF
      by_cases hj : j = i
      · subst hj; simp
      · rw [if_neg hj]
    rw [e1, e2, putAll_fill hS vs a r (i + 1) (fun j hj => by
      have := h (j + 1) (by simp; omega)
      rw [show i + 1 + j = i + (j + 1) from by omega]
      simpa using this)]
    rw [List.length_cons, show i + (r.length + 1) = i + 1 + r.length from by omega]
theorem fill_congr {L M : Nat → Bool} {vs : Nat → Value} {a : Act} (h : ∀ i, i < ops.size → L i = M i) : fillA ops L vs a = fillA ops M vs a := by
  unfold fillA
  congr 1
  apply Array.ext
  · simp
  · intro j h1 h2
    rw [Array.getElem_mapIdx, Array.getElem_mapIdx]
    cases hw : writer ops j with
    | none => rfl
    | some k =>
      obtain ⟨o, ho, _⟩ := writer_dst hw
      simp only [h k (Array.getElem?_eq_some_iff.1 ho).1]
theorem fill_all (hS : Single ops) {L : Nat → Bool} {vs : Nat → Value} {a : Act} (h : ∀ i, i < ops.size → L i = true) : fillA ops L vs a = putAll vs 0 ops.toList a := by
  have h0 := fill_none (ops := ops) (fun j => decide (j < 0)) vs a (fun i _ => by simp)
  have h1 := putAll_fill hS vs a ops.toList 0 (fun j hj => by
    rw [Nat.zero_add, Array.getElem_toList]
    exact Array.getElem?_eq_getElem (by simpa using hj))
  rw [h0] at h1
  rw [h1]
  refine fill_congr fun i hi => ?_
  rw [h i hi]
  simp
  exact hi
/-- what an operation owes -/
def Owes (P : Program) (ops : Array Oper) (Q : Exit → Act → World → Prop) (a0 : Act) (V : (Nat → Bool) → (Nat → Value) → World → Prop) (i : Nat) : Prop :=
  ∀ (o : Oper), ops[i]? = some o → ∀ (L : Nat → Bool) (vs : Nat → Value) (w : World), V L vs w → L i = false → (∀ e ∈ o.after, Region.binds .any e = true → L e.on = true) →
    ∀ K : Act → World → Prop, (∀ v w', V (setF L i true) (setF vs i v) w' → K ((fillA ops L vs a0).put o.dst v) w') → wpOp P ops Q i K (fillA ops L vs a0) w
theorem wp_region_fill {id : Nat} {a : Act} {w : World} (hm : P.follows .mixedOrders = true) (hE : Early .any ops) (hS : Single ops) (V : (Nat → Bool) → (Nat → Value) → World → Prop)
    (h0 : V (fun _ => false) (fun _ => undef) { w with drawn := w.drawn + 1 }) (hstep : ∀ i, i < ops.size → Owes P ops Q a V i)
    (hend : ∀ L vs w, (∀ i, i < ops.size → L i = true) → V L vs w → Q .normal (putAll vs 0 ops.toList a) w) : (Code.region id ops true).wp P Q a w := by
  refine wp_region_inv hm hE (fun listed a' w' => ∃ L vs, (∀ i, i < ops.size → listed.getD i false = L i) ∧ a' = fillA ops L vs a ∧ V L vs w') ?_ ?_ ?_
  · exact ⟨fun _ => false, fun _ => undef, fun i hi => by simp [Array.getD], (fill_none _ _ _ (fun _ _ => rfl)).symm, h0⟩
  · rintro listed a' w' i o hs ⟨L, vs, hL, rfl, hV⟩ ho h1 h2
    have hi : i < ops.size := (Array.getElem?_eq_some_iff.1 ho).1
    have hLi : L i = false := by
      rw [← hL i hi]
      have : i < listed.size := by omega
      simpa [Array.getD, this] using h1
    refine hstep i hi o ho L vs w' hV hLi (fun e he hb => by rw [← hL e.on (by have := hE i o ho e he hb; omega)]; exact h2 e he hb) _ ?_
    intro v w2 h3
    refine ⟨setF L i true, setF vs i v, fun j hj => ?_, fill_put hS ho v, h3⟩
    by_cases e : j = i
    · subst e
      rw [setF_same]
      have : j < listed.size := by omega
      simp [Array.getD, this]
    · rw [setF_other _ _ e, ← hL j hj]
      have : j < listed.size := by omega
      simp [Array.getD, this, Array.getElem_setIfInBounds, Ne.symm e]
  · rintro listed a' w' hs ⟨L, vs, hL, rfl, hV⟩ hall
    have hLa : ∀ i, i < ops.size → L i = true := fun i hi => by
      rw [← hL i hi]
      have h4 := hall i hi
      have : i < listed.size := by omega
      simpa [Array.getD, this] using h4
    rw [fill_all hS hLa]
    exact hend L vs w' hLa hV
end
end Go
namespace Go
section
variable {P : Program} {ops : Array Oper} {Q : Exit → Act → World → Prop}
/-- an operation's debt, met at any frame in which what it waits for has been laid -/
theorem owes_of {a0 : Act} {V : (Nat → Bool) → (Nat → Value) → World → Prop} {i : Nat} {o : Oper} (ho : ops[i]? = some o) (hS : Single ops)
    (h : ∀ L vs w, V L vs w → L i = false → (∀ e ∈ o.after, Region.binds .any e = true → L e.on = true) → ∀ a : Act,
      (∀ j oj d, ops[j]? = some oj → oj.dst = some d → L j = true → d < a0.tmps.size → a.tmps[d]? = some (vs j)) → (∀ d, writer ops d = none → a.tmps[d]? = a0.tmps[d]?) →
      ∀ K : Act → World → Prop, (∀ v w', V (setF L i true) (setF vs i v) w' → K (a.put o.dst v) w') →
      if Region.wanted o (yielded ops a.tmps) = true then Oper.wp P o a w K Q else K (a.put o.dst undef) w) : Owes P ops Q a0 V i := by
  intro o2 ho2 L vs w hV hL hdep K hK
  rw [ho] at ho2
  simp only [Option.some.injEq] at ho2
  subst ho2
  refine wpOp_step ho fun K' hK' => ?_
  refine h L vs w hV hL hdep _ ?_ ?_ K' (fun v w' hv => hK' _ _ (hK v w' hv))
  · intro j oj d hj hd hl hs
    exact fill_get hS hj hd hl hs
  · intro d hd
    exact fill_old hd
end
end Go
