/- The walk of the law SealTurned. -/
import Derived.Test.YtgkegfgdpekehaaJ
import Derived.Lib.ConvBytes
namespace Go.Proofs.Ytgkegfgdpekehaa
open Go.RowKit Go.Acre
open Go.Lib (bytesWorld bytesCells bytesWorld_at_new bytesWorld_at_old bytesWorld_size)
theorem at_place (a m : Int) (hm : 0 < m) : (0 ≤ a.tmod m ∧ a.tmod m < m) ∨ (a.tmod m < 0 ∧ 0 ≤ a.tmod m + m) := by
  have h1 := Int.tmod_lt_of_pos a hm
  have h2 : -m < a.tmod m := by
    have := Int.lt_tmod_of_pos a hm
    omega
  omega
/-- block B holds these bytes, and may be written -/
def BytesBlk (l : List Nat) (B : Nat) (w : World) : Prop := ∃ cs : Array Value, ∃ fr2, w.heap[B]? = some (.cells cs 5 (cs.size, fr2)) ∧ l.length ≤ cs.size ∧ ∀ i, i < l.length → cs[i]? = some (.int .u8 (l.getD i 0 : Nat))
theorem frozen_before {w : World} {b : Nat} {c : Array Value} {t : TypeId} {fr2 : Nat} (h : w.heap[b]? = some (.cells c t (c.size, fr2))) (o : Nat) (ho : o < c.size) : w.frozen? ⟨b, o, none⟩ = false := by
  simp [World.frozen?, h]
  omega
theorem BytesBlk.cell {l : List Nat} {B : Nat} {w : World} (h : BytesBlk l B w) {i : Nat} (hi : i < l.length) : w.cell? ⟨B, i, none⟩ = some (.int .u8 (l.getD i 0 : Nat)) ∧ w.frozen? ⟨B, i, none⟩ = false := by
  obtain ⟨cs, fr2, h1, h2, h3⟩ := h
  exact ⟨by rw [cell_of_heap h1, h3 i hi], frozen_before h1 i (by omega)⟩
theorem BytesBlk.upd {l : List Nat} {B : Nat} {w w' : World} {S : Nat → Prop} (h : BytesBlk l B w) (hu : Upd S w w') (hS : ¬ S B) : BytesBlk l B w' := by
  obtain ⟨cs, fr2, h1, h2, h3⟩ := h
  exact ⟨cs, fr2, hu.keep h1 hS, h2, h3⟩
theorem BytesBlk.set {l : List Nat} {B : Nat} {w : World} (h : BytesBlk l B w) {j x : Nat} : BytesBlk (l.set j x) B (w.setCell ⟨B, j, none⟩ (.int .u8 (x : Nat))) := by
  obtain ⟨cs, fr2, h1, h2, h3⟩ := h
  refine ⟨cs.setIfInBounds j (.int .u8 (x : Nat)), fr2, ?_, by simpa using h2, fun i hi => ?_⟩
  · rw [heap_setCell h1]; simp
  · simp only [List.length_set] at hi
    by_cases e : j = i
    · subst e
      simp [show j < cs.size by omega, hi]
    · simp only [Array.getElem?_setIfInBounds, e, if_false]
      rw [h3 i hi]
      simp [List.getD, List.getElem?_set, e]
theorem BytesBlk.ints {l : List Nat} {B cap : Nat} {w : World} (h : BytesBlk l B w) {n : Nat} (hn : n = l.length) (h1 : l.length ≤ cap) (h2 : cap ≤ maxLen) : IntsAt .u8 w (.slice (some ⟨B, 0, none⟩) n cap) (l.map Int.ofNat) := by
  refine IntsAt.mk (by simpa using hn) (by simpa using h1) h2 fun i hi => ?_
  simp only [List.length_map] at hi
  rw [Nat.zero_add, (h.cell hi).1]
  simp [List.getD, List.getElem?_eq_getElem hi]
theorem bytes_made (w : World) (s : ByteArray) : BytesBlk (nums s) w.heap.size (bytesWorld w 5 s) ∧ Upd (fun _ => False) w (bytesWorld w 5 s) := by
  refine ⟨⟨bytesCells w 5 s, _, bytesWorld_at_new w 5 s, ?_, fun i hi => ?_⟩, ⟨rfl, rfl, rfl, by rw [bytesWorld_size]; omega, fun k hk _ => bytesWorld_at_old w 5 s k hk⟩⟩
  · rw [nums_length]; simp [bytesCells]
  · have hi' : i < s.size := by rw [nums_length] at hi; exact hi
    have hd : i < s.data.size := hi'
    simp only [bytesCells]
    rw [Array.getElem?_append_left (by simpa using hd)]
    simp only [Array.getElem?_map, Array.getElem?_eq_getElem hd, Option.map_some, nums, List.getD, List.getElem?_map]
    simp [Array.getElem?_eq_getElem hd]

theorem bit_test (t k : Nat) (ht : t < 4294967296) : bits .and .u32 ((t : Int) / 2 ^ k) 1 = (((t / 2 ^ k) % 2 : Nat) : Int) := by
  have hc : t / 2 ^ k < 4294967296 := Nat.lt_of_le_of_lt (Nat.div_le_self _ _) ht
  rw [sh_nat]
  generalize t / 2 ^ k = c at *
  rw [show (1 : Int) = ((1 : Nat) : Int) from rfl, u32_and_nat c 1 hc (by omega), Nat.and_one_is_mod]

/-- the bits that the first k rounds turn in a body's bytes -/
def Turned (l0 : List Nat) (p k : Nat) (W : Nat) (l : List Nat) : Prop := l.length = l0.length ∧ W < 2 ^ k ∧ Crc.val l = Crc.val l0 ^^^ (2 ^ p * W) ∧ ∀ b ∈ l, b < 256
theorem Turned.start {l0 : List Nat} (p : Nat) (h : ∀ b ∈ l0, b < 256) : Turned l0 p 0 0 l0 := ⟨rfl, by simp, by simp, h⟩
theorem Turned.skip {l0 l : List Nat} {p k W : Nat} (h : Turned l0 p k W l) : Turned l0 p (k + 1) W l := ⟨h.1, by have := h.2.1; rw [Nat.pow_succ]; omega, h.2.2.1, h.2.2.2⟩
theorem Turned.flip {l0 l : List Nat} {p k W j x : Nat} (h : Turned l0 p k W l) (hj : j = (p + k) / 8) (hlt : j < l.length) (hx : x = l[j] ^^^ 2 ^ ((p + k) % 8)) : Turned l0 p (k + 1) (W ^^^ 2 ^ k) (l.set j x) ∧ W ^^^ 2 ^ k ≠ 0 := by
  obtain ⟨h1, h2, h3, h4⟩ := h
  have hpow : 2 ^ k < 2 ^ (k + 1) := by rw [Nat.pow_succ]; have := Nat.two_pow_pos k; omega
  refine ⟨⟨by simpa using h1, Nat.xor_lt_two_pow (Nat.lt_trans h2 hpow) hpow, ?_, ?_⟩, ?_⟩
  · subst hx
    rw [val_set l j _ hlt, h3, two_pow_mul_xor, ← Nat.pow_add, Nat.xor_assoc]
    congr 2
    subst hj
    congr 1
    omega
  · intro b hb
    rcases List.mem_or_eq_of_mem_set hb with h | h
    · exact h4 b h
    · rw [h, hx]
      exact Nat.xor_lt_two_pow (n := 8) (h4 _ (List.getElem_mem hlt)) (Nat.pow_lt_pow_right (by omega) (by omega))
  · intro e
    have : W = 2 ^ k := by
      have := congrArg (fun y => y ^^^ 2 ^ k) e
      simpa [Nat.xor_assoc] using this
    omega

theorem frame_nums (body : ByteArray) : nums (frameB body) = head body.size ++ le4 (Crc.sum (head body.size ++ nums body)) ++ nums body := by
  unfold frameB
  rw [nums_append, nums_append, nums_str (head_byte _), nums_str (le4_byte _)]
/-- what becomes of a frame whose body's bits were turned -/
theorem turned_open {body : ByteArray} {p k W : Nat} {l : List Nat} (hl : body.size ≤ 1048576) (h : Turned (nums body) p k W l) (hk : k ≤ 32) (hp : p ≤ 8 * body.size) :
    openM (strOfNums ((head body.size ++ le4 (Crc.sum (head body.size ++ nums body)) ++ l).map Int.ofNat)) = if W = 0 then some (str l, 8 + body.size) else none := by
  obtain ⟨h1, h2, h3, h4⟩ := h
  have hW : W < 4294967296 := Nat.lt_of_lt_of_le h2 (Nat.pow_le_pow_right (n := 2) (by omega) hk)
  have hsz : (str l).size = body.size := by rw [str_size, h1, nums_length]
  have e : strOfNums ((head body.size ++ le4 (Crc.sum (head body.size ++ nums body)) ++ l).map Int.ofNat) = ((str (head body.size) ++ str (le4 (Crc.sum (head body.size ++ nums body)))) ++ str l) ++ ⟨#[]⟩ := by
    rw [str_append_nil]
    apply nums_inj
    rw [nums_append, nums_append, nums_str (head_byte _), nums_str (le4_byte _), nums_str h4]
    have := nums_str (l := head body.size ++ le4 (Crc.sum (head body.size ++ nums body)) ++ l) (by
      intro b hb
      rcases List.mem_append.1 hb with hb | hb
      · rcases List.mem_append.1 hb with hb | hb
        · exact head_byte _ b hb
        · exact le4_byte _ b hb
      · exact h4 b hb)
    exact this
  rw [e, openM_put hsz.symm (by omega) (head_sum_lt body), nums_str h4]
  have hw := sum_window (hd := head body.size) (l := nums body) (m := l) (p := p) (W := W) h1.symm (by rw [nums_length]; exact hp) hW h3
  by_cases h0 : W = 0
  · rw [if_pos h0, if_pos (hw.2 h0)]
  · rw [if_neg h0, if_neg (fun h => h0 (hw.1 h))]
end Go.Proofs.Ytgkegfgdpekehaa
