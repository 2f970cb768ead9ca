/- Plain: numbers and texts as bytes, and what is read of bytes; no program in sight. -/
import Derived.Test.YtgkegfgdpekehaaGreatG
import Derived.Test.YtgkegfgdpekehaaGreatDa
namespace Go.Proofs.YtgkegfgdpekehaaGreat
open Go.RowKit Go.Acre

/-- a number's bytes -/
def num (v : Nat) : List Nat := if h : v < 128 then [v] else (v % 128 + 128) :: num (v / 128)
termination_by v
decreasing_by omega
theorem num_small {v : Nat} (h : v < 128) : num v = [v] := by rw [num, dif_pos h]
theorem num_big {v : Nat} (h : 128 ≤ v) : num v = (v % 128 + 128) :: num (v / 128) := by rw [num, dif_neg (by omega)]
theorem num_byte (v : Nat) : ∀ b ∈ num v, b < 256 := by
  induction v using Nat.strongRecOn with
  | _ v ih =>
    by_cases h : v < 128
    · rw [num_small h]; intro b hb; simp at hb; omega
    · rw [num_big (by omega)]
      intro b hb
      rcases List.mem_cons.1 hb with rfl | hb
      · omega
      · exact ih (v / 128) (by omega) b hb
theorem num_ne (v : Nat) : num v ≠ [] := by
  by_cases h : v < 128
  · rw [num_small h]; simp
  · rw [num_big (by omega)]; simp
theorem num_len {k : Nat} : ∀ {v : Nat}, v < 128 ^ (k + 1) → (num v).length ≤ k + 1 := by
  induction k with
  | zero => intro v h; rw [num_small (by simpa using h)]; simp
  | succ k ih =>
    intro v h
    by_cases hv : v < 128
    · rw [num_small hv]; simp
    · rw [num_big (by omega), List.length_cons]
      have := ih (v := v / 128) (by rw [Nat.div_lt_iff_lt_mul (by omega)]; rw [Nat.pow_succ] at h; exact h)
      omega
/-- the number that bytes begin with: .. and how many bytes it takes -/
def decN (i : Nat) : List Nat → Option (Nat × Nat)
  | [] => none
  | c :: r => if i = 9 ∧ 1 < c then none else if 128 ≤ c then (match decN (i + 1) r with | some (v, n) => some (c - 128 + 128 * v, n + 1) | none => none) else if c = 0 ∧ 0 < i then none else some (c, 1)
theorem decN_some : ∀ {l : List Nat} {i v n : Nat}, i ≤ 9 → (∀ b ∈ l, b < 256) → decN i l = some (v, n) → l.take n = num v ∧ n = (num v).length ∧ v < 2 * 128 ^ (9 - i) ∧ (0 < i → 0 < v) ∧ n ≤ l.length
  | [], i, v, n, _, _, h => by simp [decN] at h
  | c :: r, i, v, n, hi, hb, h => by
    unfold decN at h
    split at h
    · cases h
    · rename_i h9
      split at h
      · rename_i hc
        split at h
        · rename_i v' n' h'
          simp only [Option.some.injEq, Prod.mk.injEq] at h
          obtain ⟨rfl, rfl⟩ := h
          have hi9 : i ≠ 9 := fun e => h9 ⟨e, by omega⟩
          obtain ⟨h1, h2, h3, h4, h5⟩ := decN_some (l := r) (i := i + 1) (by omega) (fun b hb' => hb b (by simp [hb'])) h'
          have hc2 := hb c (by simp)
          have hv' := h4 (by omega)
          have e : num (c - 128 + 128 * v') = c :: num v' := by
            rw [num_big (by omega)]
            have e1 : (c - 128 + 128 * v') % 128 + 128 = c := by omega
            have e2 : (c - 128 + 128 * v') / 128 = v' := by omega
            rw [e1, e2]
          rw [e]
          refine ⟨by rw [List.take_succ_cons, h1], by simp [h2], ?_, fun _ => by omega, by simp; omega⟩
          have e3 : 9 - i = 9 - (i + 1) + 1 := by omega
          rw [e3, Nat.pow_succ]
          omega
        · cases h
      · split at h
        · cases h
        · rename_i hc h0
          simp only [Option.some.injEq, Prod.mk.injEq] at h
          obtain ⟨rfl, rfl⟩ := h
          rw [num_small (by omega)]
          refine ⟨by simp, by simp, ?_, fun hi0 => by omega, by simp⟩
          by_cases h9' : i = 9
          · subst h9'; simp; omega
          · have : 128 ≤ 128 ^ (9 - i) := by
              calc 128 = 128 ^ 1 := rfl
                _ ≤ 128 ^ (9 - i) := Nat.pow_le_pow_right (by omega) (by omega)
            omega
theorem decN_num : ∀ {v i : Nat} {r : List Nat}, i ≤ 9 → v < 2 * 128 ^ (9 - i) → (0 < i → 0 < v) → decN i (num v ++ r) = some (v, (num v).length) := by
  intro v
  induction v using Nat.strongRecOn with
  | _ v ih =>
    intro i r hi hv h0
    by_cases h : v < 128
    · rw [num_small h]
      simp only [List.cons_append, List.nil_append, decN]
      rw [if_neg, if_neg (by omega), if_neg (by omega)]
      · rfl
      · rintro ⟨rfl, h2⟩
        simp at hv
        omega
    · have hi9 : i ≠ 9 := by rintro rfl; simp at hv; omega
      rw [num_big (by omega)]
      simp only [List.cons_append, decN]
      rw [if_neg (fun e => hi9 e.1), if_pos (by omega), ih (v / 128) (by omega) (by omega) ?_ (fun _ => by omega)]
      · simp only [Option.some.injEq, Prod.mk.injEq, List.length_cons, and_true]
        omega
      · have e3 : 9 - i = 9 - (i + 1) + 1 := by omega
        rw [e3, Nat.pow_succ] at hv
        rw [Nat.div_lt_iff_lt_mul (by omega)]
        omega
def numAt (l : List Nat) : Option (Nat × Nat) := decN 0 l
theorem pow_eq : 2 * 128 ^ (9 - 0) = 18446744073709551616 := by decide
theorem numAt_some {l : List Nat} {v n : Nat} (hb : ∀ b ∈ l, b < 256) (h : numAt l = some (v, n)) : l = num v ++ l.drop n ∧ n = (num v).length ∧ v < 18446744073709551616 ∧ n ≤ l.length ∧ 0 < n := by
  obtain ⟨h1, h2, h3, _, h5⟩ := decN_some (by omega) hb h
  rw [pow_eq] at h3
  refine ⟨by rw [← h1, List.take_append_drop], h2, h3, h5, ?_⟩
  rw [h2]
  exact List.length_pos_iff.2 (num_ne v)
theorem numAt_num {v : Nat} (r : List Nat) (h : v < 18446744073709551616) : numAt (num v ++ r) = some (v, (num v).length) := decN_num (by omega) (by rw [pow_eq]; exact h) (by omega)
theorem num_inj {v u : Nat} {a b : List Nat} (hv : v < 18446744073709551616) (hu : u < 18446744073709551616) (h : num v ++ a = num u ++ b) : v = u ∧ a = b := by
  have h1 := numAt_num a hv
  rw [h, numAt_num b hu] at h1
  simp only [Option.some.injEq, Prod.mk.injEq] at h1
  obtain ⟨rfl, _⟩ := h1
  exact ⟨rfl, List.append_cancel_left h⟩
theorem num_ten {v : Nat} (h : v < 18446744073709551616) : (num v).length ≤ 10 := by
  have h2 : 128 ^ (9 + 1) = 1180591620717411303424 := by decide
  exact num_len (k := 9) (by rw [h2]; omega)

/-! ### of bytes -/
def numB (s : ByteArray) : Option (Nat × Nat) := numAt (nums s)
def textB (s : ByteArray) (most : Nat) : Option (ByteArray × Nat) :=
  match numB s with
  | some (v, n) => if v ≤ most ∧ v ≤ s.size - n then some (s.extract n (n + v), n + v) else none
  | none => none
theorem numB_some {s : ByteArray} {v n : Nat} (h : numB s = some (v, n)) : s = str (num v) ++ s.extract n s.size ∧ n = (num v).length ∧ v < 18446744073709551616 ∧ n ≤ s.size ∧ 0 < n := by
  obtain ⟨h1, h2, h3, h4, h5⟩ := numAt_some (nums_byte s) h
  rw [nums_length] at h4
  refine ⟨?_, h2, h3, h4, h5⟩
  apply nums_inj
  rw [nums_append, nums_str (num_byte v), nums_extract, ← nums_length, List.take_length]
  exact h1
theorem numB_num {v : Nat} (r : ByteArray) (h : v < 18446744073709551616) : numB (str (num v) ++ r) = some (v, (num v).length) := by
  unfold numB
  rw [nums_append, nums_str (num_byte v)]
  exact numAt_num _ h
theorem cut_behind (a b : ByteArray) : (a ++ b).extract a.size (a ++ b).size = b := by
  apply nums_inj
  rw [nums_extract, nums_append, ← nums_length, ← nums_length, nums_append, List.take_length, List.drop_left]
def txt (s : ByteArray) : ByteArray := str (num s.size) ++ s
theorem app_assoc (a b c : ByteArray) : a ++ b ++ c = a ++ (b ++ c) := by
  apply nums_inj
  simp only [nums_append, List.append_assoc]
theorem textB_some {s t : ByteArray} {most n : Nat} (h : textB s most = some (t, n)) : s = txt t ++ s.extract n s.size ∧ n = (txt t).size ∧ t.size ≤ most ∧ n ≤ s.size := by
  unfold textB at h
  split at h
  · rename_i v m hn
    obtain ⟨h1, h2, h3, h4, h5⟩ := numB_some hn
    split at h
    · rename_i hc
      simp only [Option.some.injEq, Prod.mk.injEq] at h
      obtain ⟨rfl, rfl⟩ := h
      have hsz : (s.extract m (m + v)).size = v := by rw [ByteArray.size_extract]; omega
      refine ⟨?_, ?_, by omega, by omega⟩
      · unfold txt
        rw [hsz]
        apply nums_inj
        have h6 := congrArg nums h1
        rw [nums_append, nums_str (num_byte v)] at h6
        rw [nums_append, nums_append, nums_str (num_byte v), List.append_assoc]
        refine h6.trans ?_
        congr 1
        simp only [nums_extract, ← nums_length s, List.take_length]
        have h7 : ((nums s).drop m).take v ++ ((nums s).drop m).drop v = (nums s).drop m := List.take_append_drop _ _
        rw [List.drop_drop] at h7
        rw [List.drop_take, Nat.add_sub_cancel_left, h7]
      · unfold txt
        rw [ByteArray.size_append, str_size, hsz]
        omega
    · cases h
  · cases h
theorem textB_txt {t : ByteArray} {most : Nat} (r : ByteArray) (h : t.size ≤ most) (h2 : t.size < 18446744073709551616) : textB (txt t ++ r) most = some (t, (txt t).size) := by
  have h1 := numB_num (t ++ r) h2
  unfold textB txt
  rw [app_assoc, h1]
  simp only
  rw [if_pos]
  · simp only [Option.some.injEq, Prod.mk.injEq]
    constructor
    · apply nums_inj
      rw [nums_extract, nums_append, nums_append, nums_str (num_byte _), List.take_append, List.take_of_length_le (by omega), Nat.add_sub_cancel_left, ← nums_length t, List.take_left, nums_length t, List.drop_left]
    · rw [ByteArray.size_append, str_size]
  · refine ⟨h, ?_⟩
    rw [ByteArray.size_append, str_size, ByteArray.size_append]
    omega
end Go.Proofs.YtgkegfgdpekehaaGreat
/- Plain: states of files, their bytes, and what bytes are read as; which states may be. -/
namespace Go.Proofs.YtgkegfgdpekehaaGreat
open Go.RowKit Go.Acre Go.Acre.Dk

/-- a file of a state -/
structure PF where
  id : Nat
  low : ByteArray
  high : ByteArray
  cells : Int
/-- a state -/
structure PS' where
  next : Nat
  log : Nat
  levels : List (List PF)
abbrev MSt := PS'
def M40 : Nat := 1099511627776

/-! ### what may be -/
def rightB (f : PF) (next : Nat) : Bool := decide (1 ≤ f.id) && decide (f.id < next) && decide (f.low.size ≤ 32) && decide (f.high.size ≤ 32) && !bf f.high f.low && decide (1 ≤ f.cells) && decide (f.cells ≤ 1073741824)
/-- do a level's files go on in order? -/
def stepB (seen : List (Nat × PF)) (x : Nat × PF) : Bool := match seen.getLast? with | some y => decide (x.1 = 0) || decide (y.1 ≠ x.1) || bf y.2.high x.2.low | none => true
def newB (seen : List (Nat × PF)) (x : Nat × PF) : Bool := seen.all fun y => decide (y.2.id ≠ x.2.id)
def okAt (next : Nat) (seen : List (Nat × PF)) (x : Nat × PF) : Bool := newB seen x && decide (seen.length ≠ 1024) && rightB x.2 next && stepB seen x
def okR (next : Nat) (seen : List (Nat × PF)) (x : Nat × PF) : Bool := rightB x.2 next && stepB seen x && newB seen x
def allOk (next : Nat) (seen : List (Nat × PF)) : List (Nat × PF) → Bool
  | [] => true
  | x :: r => okAt next seen x && allOk next (seen ++ [x]) r
def allR (next : Nat) (seen : List (Nat × PF)) : List (Nat × PF) → Bool
  | [] => true
  | x :: r => okR next seen x && allR next (seen ++ [x]) r
theorem allOk_eq {next : Nat} : ∀ {rest seen : List (Nat × PF)}, seen.length ≤ 1024 → allOk next seen rest = (decide (seen.length + rest.length ≤ 1024) && allR next seen rest)
  | [], seen, h => by simp [allOk, allR, h]
  | x :: r, seen, h => by
    unfold allOk allR
    by_cases he : seen.length = 1024
    · have e0 : ¬ (seen.length + (x :: r).length ≤ 1024) := by simp; omega
      simp [okAt, he]
      intro h1
      omega
    · rw [allOk_eq (by simp; omega)]
      have e1 : okAt next seen x = okR next seen x := by
        unfold okAt okR
        simp only [ne_eq, he, not_false_eq_true, decide_true, Bool.and_true]
        cases newB seen x <;> cases rightB x.2 next <;> cases stepB seen x <;> rfl
      rw [e1]
      have e2 : (seen ++ [x]).length + r.length = seen.length + (x :: r).length := by simp; omega
      rw [e2]
      cases okR next seen x <;> simp
def flatFrom (i : Nat) : List (List PF) → List (Nat × PF)
  | [] => []
  | l :: r => l.map (fun f => (i, f)) ++ flatFrom (i + 1) r
def flat (ls : List (List PF)) : List (Nat × PF) := flatFrom 0 ls
def headB (s : MSt) : Bool := decide (1 ≤ s.next) && decide (s.next ≤ M40) && decide (1 ≤ s.log) && decide (s.log ≤ M40) && decide (s.levels.length ≤ 7)
/-- may a state be? -/
def mayS (s : MSt) : Bool := headB s && allOk s.next [] (flat s.levels)
theorem mayS_ref (s : MSt) : mayS s = (headB s && decide ((flat s.levels).length ≤ 1024) && allR s.next [] (flat s.levels)) := by
  unfold mayS
  rw [allOk_eq (by simp)]
  simp [Bool.and_assoc]

/-! ### a state's bytes -/
def fileB (f : PF) : ByteArray := str (num f.id) ++ txt f.low ++ txt f.high ++ str (num f.cells.toNat)
def filesB : List PF → ByteArray
  | [] => ⟨#[]⟩
  | f :: r => fileB f ++ filesB r
def levelB (l : List PF) : ByteArray := str (num l.length) ++ filesB l
def levelsB : List (List PF) → ByteArray
  | [] => ⟨#[]⟩
  | l :: r => levelB l ++ levelsB r
def stateB (s : MSt) : ByteArray := str (num s.next) ++ str (num s.log) ++ str (num s.levels.length) ++ levelsB s.levels

/-! ### what is read -/
def rdNum (B : Nat) (s : ByteArray) : Option (Nat × ByteArray) := match numB s with | some (v, n) => if v ≤ B then some (v, s.extract n s.size) else none | none => none
def rdTxt (s : ByteArray) : Option (ByteArray × ByteArray) := match textB s 32 with | some (t, n) => some (t, s.extract n s.size) | none => none
def rdFile (B : Nat) (s : ByteArray) : Option (PF × ByteArray) :=
  match rdNum B s with
  | none => none
  | some (id, s1) => match rdTxt s1 with
    | none => none
    | some (lo, s2) => match rdTxt s2 with
      | none => none
      | some (hi, s3) => match rdNum 1073741824 s3 with
        | none => none
        | some (c, s4) => some (⟨id, lo, hi, (c : Int)⟩, s4)
def rdN {α : Type} (f : ByteArray → Option (α × ByteArray)) : Nat → ByteArray → Option (List α × ByteArray)
  | 0, s => some ([], s)
  | n + 1, s => match f s with
    | none => none
    | some (x, s1) => match rdN f n s1 with
      | none => none
      | some (l, s2) => some (x :: l, s2)
def rdLevel (B : Nat) (s : ByteArray) : Option (List PF × ByteArray) := match rdNum 1024 s with | none => none | some (n, s1) => rdN (rdFile B) n s1
def rdState (B : Nat) (s : ByteArray) : Option (MSt × ByteArray) :=
  match rdNum B s with
  | none => none
  | some (nx, s1) => match rdNum B s1 with
    | none => none
    | some (lg, s2) => match rdNum 7 s2 with
      | none => none
      | some (n, s3) => match rdN (rdLevel B) n s3 with
        | none => none
        | some (ls, s4) => some (⟨nx, lg, ls⟩, s4)
theorem rdNum_some {B v : Nat} {s r : ByteArray} (h : rdNum B s = some (v, r)) : s = str (num v) ++ r ∧ v ≤ B ∧ v < 18446744073709551616 ∧ r.size < s.size := by
  unfold rdNum at h
  split at h
  · rename_i v' n hn
    split at h
    · simp only [Option.some.injEq, Prod.mk.injEq] at h
      obtain ⟨rfl, rfl⟩ := h
      obtain ⟨h1, h2, h3, h4, h5⟩ := numB_some hn
      exact ⟨h1, by assumption, h3, by rw [ByteArray.size_extract]; omega⟩
    · cases h
  · cases h
theorem rdNum_num {B v : Nat} (r : ByteArray) (h : v ≤ B) (h2 : v < 18446744073709551616) : rdNum B (str (num v) ++ r) = some (v, r) := by
  unfold rdNum
  rw [numB_num r h2]
  simp only
  rw [if_pos h]
  have : (num v).length = (str (num v)).size := (str_size _).symm
  rw [this, cut_behind]
theorem rdTxt_some {s t r : ByteArray} (h : rdTxt s = some (t, r)) : s = txt t ++ r ∧ t.size ≤ 32 := by
  unfold rdTxt at h
  split at h
  · rename_i t' n hn
    simp only [Option.some.injEq, Prod.mk.injEq] at h
    obtain ⟨rfl, rfl⟩ := h
    obtain ⟨h1, h2, h3, h4⟩ := textB_some hn
    exact ⟨h1, h3⟩
  · cases h
theorem rdTxt_txt {t : ByteArray} (r : ByteArray) (h : t.size ≤ 32) : rdTxt (txt t ++ r) = some (t, r) := by
  unfold rdTxt
  rw [textB_txt r h (by omega)]
  simp only
  rw [cut_behind]
def fitsF (B : Nat) (f : PF) : Prop := f.id ≤ B ∧ f.id < 18446744073709551616 ∧ f.low.size ≤ 32 ∧ f.high.size ≤ 32 ∧ 0 ≤ f.cells ∧ f.cells ≤ 1073741824
theorem rdFile_some {B : Nat} {s r : ByteArray} {f : PF} (h : rdFile B s = some (f, r)) : s = fileB f ++ r ∧ fitsF B f := by
  unfold rdFile at h
  split at h
  · cases h
  · rename_i id s1 h1
    split at h
    · cases h
    · rename_i lo s2 h2
      split at h
      · cases h
      · rename_i hi s3 h3
        split at h
        · cases h
        · rename_i c s4 h4
          simp only [Option.some.injEq, Prod.mk.injEq] at h
          obtain ⟨rfl, rfl⟩ := h
          obtain ⟨a1, a2, a3, _⟩ := rdNum_some h1
          obtain ⟨b1, b2⟩ := rdTxt_some h2
          obtain ⟨c1, c2⟩ := rdTxt_some h3
          obtain ⟨d1, d2, _, _⟩ := rdNum_some h4
          refine ⟨?_, a2, a3, b2, c2, by simp, by simp; omega⟩
          unfold fileB
          rw [a1, b1, c1, d1]
          simp only [Int.toNat_natCast, app_assoc]
theorem rdFile_file {B : Nat} {f : PF} (r : ByteArray) (h : fitsF B f) : rdFile B (fileB f ++ r) = some (f, r) := by
  obtain ⟨h1, h2, h3, h4, h5, h6⟩ := h
  unfold rdFile fileB
  simp only [app_assoc]
  rw [rdNum_num _ h1 h2]
  simp only
  rw [rdTxt_txt _ h3]
  simp only
  rw [rdTxt_txt _ h4]
  simp only
  rw [rdNum_num _ (by omega) (by omega)]
  simp only
  rw [Int.toNat_of_nonneg h5]
theorem rdN_some {α : Type} {f : ByteArray → Option (α × ByteArray)} {en : List α → ByteArray} {e1 : α → ByteArray} {fit : α → Prop} (hn : en [] = ⟨#[]⟩) (hc : ∀ x r, en (x :: r) = e1 x ++ en r) (hf : ∀ {s x r}, f s = some (x, r) → s = e1 x ++ r ∧ fit x) :
    ∀ {n : Nat} {s r : ByteArray} {l : List α}, rdN f n s = some (l, r) → s = en l ++ r ∧ l.length = n ∧ ∀ x ∈ l, fit x
  | 0, s, r, l, h => by
    simp only [rdN, Option.some.injEq, Prod.mk.injEq] at h
    obtain ⟨rfl, rfl⟩ := h
    rw [hn]
    exact ⟨by rw [show (⟨#[]⟩ : ByteArray) ++ s = s from ByteArray.empty_append], rfl, by simp⟩
  | n + 1, s, r, l, h => by
    unfold rdN at h
    split at h
    · cases h
    · rename_i x s1 h1
      split at h
      · cases h
      · rename_i l' s2 h2
        simp only [Option.some.injEq, Prod.mk.injEq] at h
        obtain ⟨rfl, rfl⟩ := h
        obtain ⟨a1, a2⟩ := hf h1
        obtain ⟨b1, b2, b3⟩ := rdN_some hn hc hf h2
        refine ⟨by rw [hc, a1, b1, app_assoc], by simp [b2], fun y hy => ?_⟩
        rcases List.mem_cons.1 hy with rfl | hy
        · exact a2
        · exact b3 y hy
theorem rdN_en {α : Type} {f : ByteArray → Option (α × ByteArray)} {en : List α → ByteArray} {e1 : α → ByteArray} {fit : α → Prop} (hn : en [] = ⟨#[]⟩) (hc : ∀ x r, en (x :: r) = e1 x ++ en r) (hf : ∀ x r, fit x → f (e1 x ++ r) = some (x, r)) :
    ∀ (l : List α) (r : ByteArray), (∀ x ∈ l, fit x) → rdN f l.length (en l ++ r) = some (l, r)
  | [], r, _ => by
    rw [hn, show (⟨#[]⟩ : ByteArray) ++ r = r from ByteArray.empty_append]
    rfl
  | x :: l, r, h => by
    rw [hc, app_assoc, List.length_cons]
    unfold rdN
    rw [hf x _ (h x (by simp))]
    simp only
    rw [rdN_en hn hc hf l r (fun y hy => h y (by simp [hy]))]
def fitsL (B : Nat) (l : List PF) : Prop := l.length ≤ 1024 ∧ ∀ f ∈ l, fitsF B f
theorem rdLevel_some {B : Nat} {s r : ByteArray} {l : List PF} (h : rdLevel B s = some (l, r)) : s = levelB l ++ r ∧ fitsL B l := by
  unfold rdLevel at h
  split at h
  · cases h
  · rename_i n s1 h1
    obtain ⟨a1, a2, _, _⟩ := rdNum_some h1
    obtain ⟨b1, b2, b3⟩ := rdN_some (en := filesB) (e1 := fileB) (fit := fitsF B) rfl (fun _ _ => rfl) (fun h => rdFile_some h) h
    unfold levelB
    exact ⟨by rw [a1, b1, b2, app_assoc], by omega, b3⟩
theorem rdLevel_level {B : Nat} (l : List PF) (r : ByteArray) (h : fitsL B l) : rdLevel B (levelB l ++ r) = some (l, r) := by
  unfold rdLevel levelB
  rw [app_assoc, rdNum_num _ h.1 (by have := h.1; omega)]
  exact rdN_en (en := filesB) (e1 := fileB) (fit := fitsF B) rfl (fun _ _ => rfl) (fun x r h => rdFile_file r h) l r h.2
def fitsS (B : Nat) (s : MSt) : Prop := s.next ≤ B ∧ s.next < 18446744073709551616 ∧ s.log ≤ B ∧ s.log < 18446744073709551616 ∧ s.levels.length ≤ 7 ∧ ∀ l ∈ s.levels, fitsL B l
theorem rdState_some {B : Nat} {s r : ByteArray} {x : MSt} (h : rdState B s = some (x, r)) : s = stateB x ++ r ∧ fitsS B x := by
  unfold rdState at h
  split at h
  · cases h
  · rename_i nx s1 h1
    split at h
    · cases h
    · rename_i lg s2 h2
      split at h
      · cases h
      · rename_i n s3 h3
        split at h
        · cases h
        · rename_i ls s4 h4
          simp only [Option.some.injEq, Prod.mk.injEq] at h
          obtain ⟨rfl, rfl⟩ := h
          obtain ⟨a1, a2, a3, _⟩ := rdNum_some h1
          obtain ⟨b1, b2, b3, _⟩ := rdNum_some h2
          obtain ⟨c1, c2, _, _⟩ := rdNum_some h3
          obtain ⟨d1, d2, d3⟩ := rdN_some (en := levelsB) (e1 := levelB) (fit := fitsL B) rfl (fun _ _ => rfl) (fun h => rdLevel_some h) h4
          unfold stateB
          exact ⟨by rw [a1, b1, c1, d1, d2]; simp only [app_assoc], a2, a3, b2, b3, by simp only; omega, d3⟩
theorem rdState_state {B : Nat} (x : MSt) (r : ByteArray) (h : fitsS B x) : rdState B (stateB x ++ r) = some (x, r) := by
  obtain ⟨h1, h2, h3, h4, h5, h6⟩ := h
  unfold rdState stateB
  simp only [app_assoc]
  rw [rdNum_num _ h1 h2]
  simp only
  rw [rdNum_num _ h3 h4]
  simp only
  rw [rdNum_num _ h5 (by omega)]
  simp only
  rw [rdN_en (en := levelsB) (e1 := levelB) (fit := fitsL B) rfl (fun _ _ => rfl) (fun x r h => rdLevel_level x r h) x.levels r h6]
theorem fitsS_mono {B C : Nat} (hBC : B ≤ C) {x : MSt} (h : fitsS B x) : fitsS C x :=
  ⟨Nat.le_trans h.1 hBC, h.2.1, Nat.le_trans h.2.2.1 hBC, h.2.2.2.1, h.2.2.2.2.1, fun l hl => ⟨(h.2.2.2.2.2 l hl).1, fun f hf => ⟨Nat.le_trans ((h.2.2.2.2.2 l hl).2 f hf).1 hBC, ((h.2.2.2.2.2 l hl).2 f hf).2⟩⟩⟩
theorem mem_flatFrom {ls : List (List PF)} {i : Nat} {l : List PF} {f : PF} (hl : l ∈ ls) (hf : f ∈ l) : ∃ j, (j, f) ∈ flatFrom i ls := by
  induction ls generalizing i with
  | nil => cases hl
  | cons a r ih =>
    rcases List.mem_cons.1 hl with rfl | hl
    · exact ⟨i, by unfold flatFrom; exact List.mem_append.2 (.inl (List.mem_map.2 ⟨f, hf, rfl⟩))⟩
    · obtain ⟨j, hj⟩ := ih (i := i + 1) hl
      exact ⟨j, by unfold flatFrom; exact List.mem_append.2 (.inr hj)⟩
theorem len_flatFrom {ls : List (List PF)} {i : Nat} {l : List PF} (hl : l ∈ ls) : l.length ≤ (flatFrom i ls).length := by
  induction ls generalizing i with
  | nil => cases hl
  | cons a r ih =>
    unfold flatFrom
    rw [List.length_append, List.length_map]
    rcases List.mem_cons.1 hl with rfl | hl
    · omega
    · have := ih (i := i + 1) hl; omega
theorem allR_right {next : Nat} : ∀ {rest seen : List (Nat × PF)}, allR next seen rest = true → ∀ x ∈ rest, rightB x.2 next = true
  | [], _, _ => by simp
  | y :: r, seen, h => by
    unfold allR okR at h
    simp only [Bool.and_eq_true] at h
    intro x hx
    rcases List.mem_cons.1 hx with rfl | hx
    · exact h.1.1.1
    · exact allR_right h.2 x hx
theorem m40_le : M40 ≤ 1099511627776 := Nat.le_refl _
/-- what may be fits -/
theorem mayS_fits {s : MSt} (h : mayS s = true) : fitsS M40 s := by
  rw [mayS_ref] at h
  simp only [Bool.and_eq_true, decide_eq_true_eq, headB] at h
  obtain ⟨⟨⟨⟨⟨⟨h1, h2⟩, h3⟩, h4⟩, h5⟩, h6⟩, h7⟩ := h
  have hM : M40 ≤ 1099511627776 := m40_le
  clear h3 h1
  generalize M40 = B at *
  refine ⟨h2, by omega, h4, by omega, h5, fun l hl => ⟨Nat.le_trans (len_flatFrom hl) h6, fun f hf => ?_⟩⟩
  obtain ⟨j, hj⟩ := mem_flatFrom (i := 0) hl hf
  have hr := allR_right h7 (j, f) hj
  simp only [rightB, Bool.and_eq_true, decide_eq_true_eq] at hr
  exact ⟨by omega, by omega, hr.1.1.1.1.2, hr.1.1.1.2, by omega, hr.2⟩
/-- what a frame of bytes is read as -/
def decodeS (b : ByteArray) : Option MSt :=
  match openM b with
  | none => none
  | some (body, n) => if n = b.size then (match rdState M40 body with | some (x, r) => if r.size = 0 ∧ mayS x = true then some x else none | none => none) else none
theorem size_zero {s : ByteArray} (h : s.size = 0) : s = ⟨#[]⟩ := ByteArray.ext (Array.eq_empty_of_size_eq_zero h)
theorem app_nil (s : ByteArray) : s ++ (⟨#[]⟩ : ByteArray) = s := ByteArray.append_empty
theorem nil_app (s : ByteArray) : (⟨#[]⟩ : ByteArray) ++ s = s := ByteArray.empty_append
theorem decodeS_of {b body r : ByteArray} {n : Nat} {x : MSt} (h1 : openM b = some (body, n)) (h2 : n = b.size) (h3 : rdState M40 body = some (x, r)) (h4 : r.size = 0) (h5 : mayS x = true) : decodeS b = some x := by
  unfold decodeS
  generalize M40 = B at *
  rw [h1]
  simp only [h2, if_true, h3, h4, h5, and_self]
theorem rd_back {x : MSt} (h : mayS x = true) : rdState M40 (stateB x) = some (x, ⟨#[]⟩) := by
  have h2 := rdState_state (B := M40) x ⟨#[]⟩ (mayS_fits h)
  rw [app_nil] at h2
  exact h2
theorem open_back {body : ByteArray} (hs : body.size ≤ 1048576) : openM (frameB body) = some (body, 8 + body.size) := by
  have h1 := openM_frame (body := body) (behind := ⟨#[]⟩) hs
  rw [app_nil] at h1
  exact h1
theorem nil_size : (⟨#[]⟩ : ByteArray).size = 0 := rfl
theorem decodeS_frame {x : MSt} (h : mayS x = true) (hs : (stateB x).size ≤ 1048576) : decodeS (frameB (stateB x)) = some x :=
  decodeS_of (open_back hs) (by rw [frameB_size, Nat.add_comm]) (rd_back h) nil_size h
end Go.Proofs.YtgkegfgdpekehaaGreat
