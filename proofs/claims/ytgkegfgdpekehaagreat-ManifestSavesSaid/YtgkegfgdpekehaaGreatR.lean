/- Plain facts of a row of frames that is cut; of bits that are turned; no program in sight. -/
import Derived.Test.YtgkegfgdpekehaaGreatG
namespace Go.Proofs.YtgkegfgdpekehaaGreat
open Go.RowKit Go.Acre

/-- the frames of bodies, one behind the other -/
def frames : List ByteArray → ByteArray
  | [] => ⟨#[]⟩
  | b :: l => frameB b ++ frames l
theorem str_nil_append (a : ByteArray) : (⟨#[]⟩ : ByteArray) ++ a = a := by
  apply nums_inj; rw [nums_append]; simp [nums]
theorem str_append_assoc (a b c : ByteArray) : (a ++ b) ++ c = a ++ (b ++ c) := by
  apply nums_inj; simp only [nums_append, List.append_assoc]
theorem frames_snoc (l : List ByteArray) (b : ByteArray) : frames (l ++ [b]) = frames l ++ frameB b := by
  induction l with
  | nil => simp only [List.nil_append, frames]; rw [str_append_nil, str_nil_append]
  | cons c l ih => simp only [List.cons_append, frames]; rw [ih, str_append_assoc]
theorem frames_cons_size (b : ByteArray) (l : List ByteArray) : (frames (b :: l)).size = 8 + b.size + (frames l).size := by
  simp only [frames, ByteArray.size_append, frameB_size]; omega
theorem frames_nil_size : (frames []).size = 0 := rfl
theorem extract_left {a b : ByteArray} {n : Nat} (h : n ≤ a.size) : (a ++ b).extract 0 n = a.extract 0 n := by
  apply nums_inj
  rw [nums_extract, nums_extract, nums_append, List.take_append_of_le_length (by rw [nums_length]; exact h)]
theorem extract_right {a b : ByteArray} {n : Nat} (h : a.size ≤ n) : (a ++ b).extract 0 n = a ++ b.extract 0 (n - a.size) := by
  apply nums_inj
  rw [nums_append, nums_extract, nums_extract, nums_append, List.take_append, nums_length, List.drop_zero, List.drop_zero, List.take_of_length_le (by rw [nums_length]; exact h)]
theorem openM_nil : openM ⟨#[]⟩ = none := openM_short (by decide)
theorem row_cut (bs : List ByteArray) (hb : ∀ b ∈ bs, b.size ≤ 1048576) : ∀ (n k : Nat), k ≤ bs.length → (frames (bs.take k)).size ≤ n → (k < bs.length → n < (frames (bs.take (k + 1))).size) →
    scanR ((frames bs).extract 0 n) = (bs.take k, (frames (bs.take k)).size) := by
  induction bs with
  | nil =>
    intro n k hk _ _
    have : (frames []).extract 0 n = ⟨#[]⟩ := by apply nums_inj; rw [nums_extract]; simp [frames, nums]
    rw [this, scanR_none openM_nil]
    simp [frames_nil_size]
  | cons b l ih =>
    intro n k hk h1 h2
    have hbs := hb b (by simp)
    cases k with
    | zero =>
      have h3 := h2 (by simp)
      simp only [List.take_succ_cons, List.take_zero, frames_cons_size, frames_nil_size] at h3
      have : (frames (b :: l)).extract 0 n = (frameB b).extract 0 n := by
        simp only [frames]
        exact extract_left (by rw [frameB_size]; omega)
      rw [this, scanR_none (openM_cut hbs (by omega))]
      simp [frames_nil_size]
    | succ k =>
      simp only [List.take_succ_cons, frames_cons_size] at h1
      have h3 := ih (fun c hc => hb c (by simp [hc])) (n - (8 + b.size)) k (by simpa using hk) (by omega) (fun hlt => by
        have := h2 (by simpa using hlt)
        simp only [List.take_succ_cons, frames_cons_size] at this ⊢
        omega)
      have : (frames (b :: l)).extract 0 n = frameB b ++ (frames l).extract 0 (n - (8 + b.size)) := by
        simp only [frames]
        rw [extract_right (by rw [frameB_size]; omega), frameB_size, show b.size + 8 = 8 + b.size from by omega]
      rw [this, scanR_frame hbs, h3]
      simp only [List.take_succ_cons, frames_cons_size]
theorem row_full (bs : List ByteArray) (hb : ∀ b ∈ bs, b.size ≤ 1048576) (z : ByteArray) (hz : openM z = none) : scanR (frames bs ++ z) = (bs, (frames bs).size) := by
  induction bs with
  | nil => simp only [frames]; rw [str_nil_append, scanR_none hz]; rfl
  | cons b l ih =>
    simp only [frames]
    rw [str_append_assoc, scanR_frame (hb b (by simp)), ih (fun c hc => hb c (by simp [hc]))]
    simp only [Prod.mk.injEq, true_and]
    simp only [ByteArray.size_append, frameB_size]
    omega

/-! ### bits -/
theorem two_pow_mul_xor (k x y : Nat) : 2 ^ k * (x ^^^ y) = 2 ^ k * x ^^^ 2 ^ k * y := by
  apply Nat.eq_of_testBit_eq
  intro i
  simp only [Nat.testBit_xor, Nat.testBit_two_pow_mul]
  by_cases h : k ≤ i <;> simp [h]
theorem val_set (l : List Nat) : ∀ (j k : Nat) (h : j < l.length), Crc.val (l.set j (l[j] ^^^ 2 ^ k)) = Crc.val l ^^^ 2 ^ (8 * j + k) := by
  induction l with
  | nil => intro j k h; simp at h
  | cons b l ih =>
    intro j k h
    cases j with
    | zero =>
      simp only [List.set_cons_zero, List.getElem_cons_zero, Crc.val]
      rw [Nat.xor_assoc, Nat.xor_comm (2 ^ k), ← Nat.xor_assoc, Nat.mul_zero, Nat.zero_add]
    | succ j =>
      simp only [List.set_cons_succ, List.getElem_cons_succ, Crc.val]
      rw [ih j k (by simpa using h), show (256 : Nat) = 2 ^ 8 from rfl, two_pow_mul_xor, ← Nat.xor_assoc, ← Nat.pow_add, show 8 + (8 * j + k) = 8 * (j + 1) + k from by omega]
theorem crc_of_val {x : Nat} {l m : List Nat} (hl : l.length = m.length) (h : Crc.val l = Crc.val m) : Crc.crc x l = Crc.crc x m := by
  rw [Crc.crc_val, Crc.crc_val, hl, h]
/-- bits turned within a window: the sum is another one just if a bit was turned -/
theorem sum_window {hd l m : List Nat} {p W : Nat} (hlen : l.length = m.length) (hp : p ≤ 8 * l.length) (hW : W < 4294967296) (hd' : Crc.val m = Crc.val l ^^^ (2 ^ p * W)) :
    (Crc.sum (hd ++ m) = Crc.sum (hd ++ l)) ↔ W = 0 := by
  constructor
  · intro h
    unfold Crc.sum at h
    have h2 : Crc.crc 4294967295 (hd ++ m) = Crc.crc 4294967295 (hd ++ l) := by
      have := congrArg (fun y => y ^^^ 4294967295) h
      simpa [Nat.xor_assoc] using this
    rw [Crc.crc_append, Crc.crc_append] at h2
    exact Crc.crc_window hlen hp hW hd' h2.symm
  · rintro rfl
    unfold Crc.sum
    rw [Crc.crc_append, Crc.crc_append, crc_of_val hlen.symm (by rw [hd']; simp)]
end Go.Proofs.YtgkegfgdpekehaaGreat
