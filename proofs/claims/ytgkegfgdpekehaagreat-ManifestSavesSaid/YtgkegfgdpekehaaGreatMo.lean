/- Plain: states that are made level by level; a state's bytes are few; no frame that is cut or lengthened is one. -/
import Derived.Test.YtgkegfgdpekehaaGreatMn
namespace Go.Proofs.YtgkegfgdpekehaaGreat
open Go.RowKit Go.Acre Go.Acre.Dk

/-! ### how many bytes -/
theorem txt_le {t : ByteArray} (h : t.size ≤ 32) : (txt t).size ≤ 42 := by
  unfold txt
  rw [ByteArray.size_append, str_size]
  have := num_ten (v := t.size) (by omega)
  omega
theorem fileB_le {B : Nat} {f : PF} (h : fitsF B f) : (fileB f).size ≤ 104 := by
  obtain ⟨_, h2, h3, h4, h5, h6⟩ := h
  unfold fileB
  simp only [ByteArray.size_append, str_size]
  have a := num_ten h2
  have b := num_ten (v := f.cells.toNat) (by omega)
  have c := txt_le h3
  have d := txt_le h4
  omega
theorem filesB_le {B : Nat} : ∀ {l : List PF}, (∀ f ∈ l, fitsF B f) → (filesB l).size ≤ 104 * l.length
  | [], _ => Nat.zero_le _
  | f :: r, h => by
    unfold filesB
    rw [ByteArray.size_append, List.length_cons]
    have a := fileB_le (h f (by simp))
    have b := filesB_le (l := r) (fun x hx => h x (by simp [hx]))
    omega
theorem levelB_le {B : Nat} {l : List PF} (h : fitsL B l) : (levelB l).size ≤ 10 + 104 * l.length := by
  unfold levelB
  rw [ByteArray.size_append, str_size]
  have a := num_ten (v := l.length) (by have := h.1; omega)
  have b := filesB_le h.2
  omega
theorem levelsB_le {B : Nat} : ∀ {ls : List (List PF)} {i : Nat}, (∀ l ∈ ls, fitsL B l) → (levelsB ls).size ≤ 10 * ls.length + 104 * (flatFrom i ls).length
  | [], _, _ => Nat.zero_le _
  | l :: r, i, h => by
    unfold levelsB flatFrom
    rw [ByteArray.size_append, List.length_cons, List.length_append, List.length_map]
    have a := levelB_le (h l (by simp))
    have b := levelsB_le (ls := r) (i := i + 1) (fun x hx => h x (by simp [hx]))
    omega
theorem mayS_flat {s : MSt} (h : mayS s = true) : (flat s.levels).length ≤ 1024 := by
  rw [mayS_ref] at h
  simp only [Bool.and_eq_true, decide_eq_true_eq] at h
  exact h.1.2
/-- what may be has few bytes -/
theorem stateB_le {s : MSt} (h : mayS s = true) : (stateB s).size ≤ 200000 := by
  have hf := mayS_fits h
  have hl := mayS_flat h
  obtain ⟨_, h2, _, h4, h5, h6⟩ := hf
  unfold stateB
  simp only [ByteArray.size_append, str_size]
  have a := num_ten h2
  have b := num_ten h4
  have c := num_ten (v := s.levels.length) (by omega)
  have d := levelsB_le (i := 0) h6
  unfold flat at hl
  omega

/-! ### frames cut, lengthened -/
theorem decodeS_none {b : ByteArray} (h : openM b = none) : decodeS b = none := by
  unfold decodeS
  rw [h]
theorem decodeS_size {b body : ByteArray} {n : Nat} (h : openM b = some (body, n)) (hn : n ≠ b.size) : decodeS b = none := by
  unfold decodeS
  generalize M40 = B at *
  rw [h]
  simp only [hn, if_false]
theorem decodeS_cut {x : MSt} (h : mayS x = true) : decodeS ((frameB (stateB x)).extract 0 ((frameB (stateB x)).size - 1)) = none := by
  have hs := stateB_le h
  refine decodeS_none (openM_cut (by omega) ?_)
  rw [frameB_size]
  omega
theorem decodeS_long {x : MSt} (h : mayS x = true) (b : ByteArray) (hb : b.size ≠ 0) : decodeS (frameB (stateB x) ++ b) = none := by
  have hs := stateB_le h
  refine decodeS_size (openM_frame (by omega)) ?_
  rw [ByteArray.size_append, frameB_size]
  omega
theorem decodeS_back {x : MSt} (h : mayS x = true) : decodeS (frameB (stateB x)) = some x := decodeS_frame h (by have := stateB_le h; omega)

/-! ### which are made -/
def madeF (id k i : Nat) : PF := ⟨id, str [2 * k, i], str [2 * k + 1], 1 + (k : Int)⟩
def madeLev (id i n : Nat) : List PF := (List.range' 0 n).map fun k => madeF (id + k) k i
def madeLs (id i : Nat) : List Nat → List (List PF)
  | [] => []
  | n :: r => madeLev id i (n % 30) :: madeLs (id + n % 30) (i + 1) r
def madeN (id : Nat) : List Nat → Nat
  | [] => id
  | n :: r => madeN (id + n % 30) r
def madeS (levels : List Nat) (log : Nat) : MSt := ⟨madeN 1 (levels.take 7), 1 + log, madeLs 1 0 (levels.take 7)⟩
theorem madeLev_snoc (id i n : Nat) : madeLev id i (n + 1) = madeLev id i n ++ [madeF (id + n) n i] := by
  unfold madeLev
  rw [List.range'_1_concat, List.map_append]
  simp
theorem madeLev_len (id i n : Nat) : (madeLev id i n).length = n := by unfold madeLev; simp
theorem madeN_snoc : ∀ (a : List Nat) (n id : Nat), madeN id (a ++ [n]) = madeN id a + n % 30
  | [], n, id => rfl
  | m :: a, n, id => by
    simp only [List.cons_append, madeN]
    exact madeN_snoc a n _
theorem madeLs_snoc : ∀ (a : List Nat) (n id i : Nat), madeLs id i (a ++ [n]) = madeLs id i a ++ [madeLev (madeN id a) (i + a.length) (n % 30)]
  | [], n, id, i => rfl
  | m :: a, n, id, i => by
    simp only [List.cons_append, madeLs, madeN, List.length_cons]
    rw [madeLs_snoc a n _ _, show i + 1 + a.length = i + (a.length + 1) from by omega]
theorem madeLs_len : ∀ (a : List Nat) (id i : Nat), (madeLs id i a).length = a.length
  | [], _, _ => rfl
  | n :: r, id, i => by simp only [madeLs, List.length_cons]; rw [madeLs_len r]
theorem madeN_ge : ∀ (a : List Nat) (id : Nat), id ≤ madeN id a ∧ madeN id a ≤ id + 29 * a.length
  | [], id => by simp [madeN]
  | n :: r, id => by
    simp only [madeN, List.length_cons]
    have := madeN_ge r (id + n % 30)
    have : n % 30 ≤ 29 := by omega
    omega
theorem str_data (l : List Nat) : (str l).toList = l.map UInt8.ofNat := by
  rw [ByteArray.toList_eq]
  simp [str, strOfNums_data]
theorem bf_first {a b : Nat} {r s : List Nat} (ha : a < 256) (hb : b < 256) (h : a < b) : bf (str (a :: r)) (str (b :: s)) = true := by
  rw [← bf_less, str_data, str_data, List.map_cons, List.map_cons, Op.bytesLess]
  have : UInt8.ofNat a < UInt8.ofNat b := by
    rw [UInt8.lt_iff_toNat_lt]
    simp
    omega
  simp [this]
theorem right_made {id k i next : Nat} (h1 : 1 ≤ id) (h2 : id < next) (hk : k ≤ 29) : rightB (madeF id k i) next = true := by
  refine right_iff.2 ⟨h1, h2, ?_, ?_, bf_asymm (bf_first (by omega) (by omega) (by omega)), ?_, ?_⟩
  · show (str _).size ≤ 32; rw [str_size]; simp
  · show (str _).size ≤ 32; rw [str_size]; simp
  · show (1 : Int) ≤ 1 + (k : Int); omega
  · show 1 + (k : Int) ≤ 1073741824; omega
theorem stepB_in {seen : List (Nat × PF)} {id id2 k i : Nat} (hk : k ≤ 29) : stepB (seen ++ [(i, madeF id k i)]) (i, madeF id2 (k + 1) i) = true := by
  unfold stepB
  rw [List.getLast?_append]
  simp only [List.getLast?_singleton, Option.some_or]
  have : bf (madeF id k i).high (madeF id2 (k + 1) i).low = true := bf_first (by omega) (by omega) (by omega)
  rw [this, Bool.or_true]
theorem stepB_other {seen : List (Nat × PF)} {x : Nat × PF} (h : ∀ y ∈ seen, y.1 ≠ x.1) : stepB seen x = true := by
  unfold stepB
  split
  · rename_i y hy
    have := h y (List.mem_of_getLast? hy)
    simp [this]
  · rfl
theorem newB_lt {seen : List (Nat × PF)} {x : Nat × PF} (h : ∀ y ∈ seen, y.2.id < x.2.id) : newB seen x = true := by
  unfold newB
  rw [List.all_eq_true]
  intro y hy
  have := h y hy
  simp
  omega
theorem lev_ok {next id i : Nat} : ∀ (m k : Nat) (seen : List (Nat × PF)), (∀ y ∈ seen, y.2.id < id + k) → seen.length + m ≤ 1024 → id + k + m ≤ next → 1 ≤ id → k + m ≤ 30 → (0 < m → stepB seen (i, madeF (id + k) k i) = true) →
    allOk next seen (((List.range' k m).map fun k => madeF (id + k) k i).map fun f => (i, f)) = true
  | 0, _, _, _, _, _, _, _, _ => rfl
  | m + 1, k, seen, h1, h2, h3, h4, h5, h6 => by
    rw [List.range'_succ, List.map_cons, List.map_cons, allOk]
    have a : okAt next seen (i, madeF (id + k) k i) = true := by
      unfold okAt
      rw [newB_lt (x := (i, madeF (id + k) k i)) h1, right_made (by omega) (by omega) (by omega), h6 (by omega)]
      simp
      omega
    rw [a, Bool.true_and]
    refine lev_ok m (k + 1) _ ?_ ?_ (by omega) h4 (by omega) (fun _ => stepB_in (by omega))
    · intro y hy
      rcases List.mem_append.1 hy with hy | hy
      · have := h1 y hy; omega
      · simp only [List.mem_singleton] at hy
        subst hy
        show id + k < _
        omega
    · simp only [List.length_append, List.length_singleton]; omega
theorem mem_lev {id i n : Nat} {y : Nat × PF} (h : y ∈ (madeLev id i n).map fun f => (i, f)) : y.1 = i ∧ y.2.id < id + n := by
  unfold madeLev at h
  obtain ⟨f, hf, rfl⟩ := List.mem_map.1 h
  obtain ⟨k, hk, rfl⟩ := List.mem_map.1 hf
  rw [List.mem_range'_1] at hk
  exact ⟨rfl, by show id + k < _; omega⟩
theorem levs_ok {next : Nat} : ∀ (a : List Nat) (id i : Nat) (seen : List (Nat × PF)), (∀ y ∈ seen, y.1 < i ∧ y.2.id < id) → seen.length + 29 * a.length ≤ 1024 → madeN id a ≤ next → 1 ≤ id → allOk next seen (flatFrom i (madeLs id i a)) = true
  | [], _, _, _, _, _, _, _ => rfl
  | n :: r, id, i, seen, h1, h2, h3, h4 => by
    simp only [madeLs, flatFrom]
    have hn : n % 30 ≤ 29 := by omega
    simp only [madeN] at h3
    have h5 := (madeN_ge r (id + n % 30)).1
    simp only [List.length_cons] at h2
    rw [allOk_append, Bool.and_eq_true]
    constructor
    · unfold madeLev
      refine lev_ok (n % 30) 0 seen (fun y hy => by have := (h1 y hy).2; omega) (by omega) (by omega) h4 (by omega) (fun _ => stepB_other (fun y hy => ?_))
      have := (h1 y hy).1
      show y.1 ≠ i
      omega
    · refine levs_ok r _ _ _ ?_ ?_ h3 (by omega)
      · intro y hy
        rcases List.mem_append.1 hy with hy | hy
        · have := h1 y hy; omega
        · have := mem_lev hy; omega
      · rw [List.length_append, List.length_map, madeLev_len]; omega
/-- what is made may be -/
theorem made_may (levels : List Nat) (log : Nat) (h : log < 4294967296) : mayS (madeS levels log) = true := by
  have h7 : (levels.take 7).length ≤ 7 := by rw [List.length_take]; omega
  have hn := madeN_ge (levels.take 7) 1
  unfold mayS
  rw [Bool.and_eq_true]
  refine ⟨head_iff.2 ⟨hn.1, ?_, ?_, ?_, ?_⟩, levs_ok (levels.take 7) 1 0 [] (by simp) (by simp only [List.length_nil]; omega) (Nat.le_refl _) (Nat.le_refl _)⟩
  · show madeN 1 (levels.take 7) ≤ _; omega
  · show 1 ≤ 1 + log; omega
  · show 1 + log ≤ _; omega
  · show (madeLs 1 0 (levels.take 7)).length ≤ 7; rw [madeLs_len]; exact h7
theorem made_log (levels : List Nat) (log : Nat) : (madeS levels log).log = 1 + log := rfl
end Go.Proofs.YtgkegfgdpekehaaGreat
/- Plain: the reference reads bytes as the program does. -/
namespace Go.Proofs.YtgkegfgdpekehaaGreat
open Go.RowKit Go.Acre Go.Acre.Dk
theorem open_frame {t b : ByteArray} {n : Nat} (h : openM t = some (b, n)) : frameB b = t.extract 0 n := by
  unfold openM at h
  split at h
  · rename_i h8
    split at h
    · rename_i hn
      split at h
      · rename_i hs
        simp only [Option.some.injEq, Prod.mk.injEq] at h
        obtain ⟨rfl, rfl⟩ := h
        exact (frame_is t h8 hn.2).2 hs
      · cases h
    · cases h
  · cases h
def MX : Nat := 18446744073709551615
theorem m40_mx : M40 ≤ MX := by unfold M40 MX; omega
def pick (b : ByteArray) : Option (MSt × ByteArray) → Option MSt
  | some (x, r) => if r.size = 0 ∧ mayS x = true ∧ frameB (stateB x) = b then some x else none
  | none => none
def decodeR (b : ByteArray) : Option MSt :=
  match openM b with
  | none => none
  | some (body, _) => pick b (rdState MX body)
theorem decodeR_inv {b : ByteArray} {x : MSt} (h : decodeR b = some x) : mayS x = true ∧ frameB (stateB x) = b := by
  unfold decodeR at h
  split at h
  · cases h
  · rename_i body n h1
    generalize rdState MX body = q at h
    unfold pick at h
    split at h
    · rename_i y r
      split at h
      · rename_i hc
        simp only [Option.some.injEq] at h
        subst h
        exact ⟨hc.2.1, hc.2.2⟩
      · cases h
    · cases h
theorem decodeS_inv {b : ByteArray} {x : MSt} (h : decodeS b = some x) : mayS x = true ∧ frameB (stateB x) = b := by
  unfold decodeS at h
  split at h
  · cases h
  · rename_i body n h1
    split at h
    · rename_i hn
      split at h
      · rename_i y r h2
        split at h
        · rename_i hc
          simp only [Option.some.injEq] at h
          subst h
          refine ⟨hc.2, ?_⟩
          have a := (rdState_some h2).1
          rw [size_zero hc.1, app_nil] at a
          rw [← a, open_frame h1, hn]
          exact extract_all b
        · cases h
      · cases h
    · cases h
theorem pick_some {b : ByteArray} {x : MSt} {r : ByteArray} (h1 : r.size = 0) (h2 : mayS x = true) (h3 : frameB (stateB x) = b) : pick b (some (x, r)) = some x := if_pos ⟨h1, h2, h3⟩
theorem decodeR_of {b body : ByteArray} {n : Nat} {x : MSt} {r : ByteArray} (ho : openM b = some (body, n)) (h0 : rdState MX body = some (x, r)) (h1 : r.size = 0) (h2 : mayS x = true) (h3 : frameB (stateB x) = b) : decodeR b = some x := by
  unfold decodeR
  generalize MX = B at *
  rw [ho]
  show pick b (rdState B body) = some x
  rw [h0]
  exact pick_some h1 h2 h3
theorem rd_back2 {x : MSt} (h : mayS x = true) : rdState MX (stateB x) = some (x, ⟨#[]⟩) := by
  have hf := fitsS_mono m40_mx (mayS_fits h)
  generalize MX = B at *
  have h2 := rdState_state (B := B) x ⟨#[]⟩ hf
  rw [app_nil] at h2
  exact h2
theorem decodeR_back {x : MSt} (h : mayS x = true) : decodeR (frameB (stateB x)) = some x :=
  decodeR_of (open_back (Nat.le_trans (stateB_le h) (by decide))) (rd_back2 h) nil_size h rfl
theorem decode_eq (b : ByteArray) : decodeR b = decodeS b := by
  apply Option.ext
  intro x
  constructor
  · intro h
    obtain ⟨a, rfl⟩ := decodeR_inv h
    exact decodeS_back a
  · intro h
    obtain ⟨a, rfl⟩ := decodeS_inv h
    exact decodeR_back a
end Go.Proofs.YtgkegfgdpekehaaGreat
