/- Plain arithmetic of the sum: a register of bits, the table's entry, the register of a list of bytes; no program in sight. -/
namespace Go.Acre.Crc

def poly : Nat := 3988292384
/-- one bit's step -/
def L (x : Nat) : Nat := if x % 2 = 1 then (x / 2) ^^^ poly else x / 2
def Lk : Nat → Nat → Nat
  | 0, x => x
  | n + 1, x => Lk n (L x)

theorem xor_mod2 (x y : Nat) : (x ^^^ y) % 2 = (x % 2 + y % 2) % 2 := by
  have := Nat.xor_mod_two_pow (a := x) (b := y) (n := 1)
  simp only [Nat.pow_one] at this
  rw [this]
  rcases Nat.mod_two_eq_zero_or_one x with h | h <;> rcases Nat.mod_two_eq_zero_or_one y with h' | h' <;> rw [h, h'] <;> rfl
theorem xor_div2 (x y : Nat) : (x ^^^ y) / 2 = (x / 2) ^^^ (y / 2) := by
  have := Nat.shiftRight_xor_distrib (a := x) (b := y) (i := 1)
  simpa [Nat.shiftRight_eq_div_pow] using this
theorem L_xor (x y : Nat) : L (x ^^^ y) = L x ^^^ L y := by
  unfold L
  rw [xor_mod2, xor_div2]
  rcases Nat.mod_two_eq_zero_or_one x with h | h <;> rcases Nat.mod_two_eq_zero_or_one y with h' | h' <;> rw [h, h'] <;> simp
  · rw [Nat.xor_assoc]
  · rw [Nat.xor_assoc, Nat.xor_assoc, Nat.xor_comm poly]
  · rw [show x / 2 ^^^ poly ^^^ (y / 2 ^^^ poly) = (x / 2 ^^^ y / 2) ^^^ (poly ^^^ poly) from by
      rw [Nat.xor_assoc, Nat.xor_assoc, ← Nat.xor_assoc poly, Nat.xor_comm poly (y / 2), Nat.xor_assoc]]
    simp
theorem Lk_xor (n : Nat) : ∀ x y, Lk n (x ^^^ y) = Lk n x ^^^ Lk n y := by
  induction n with
  | zero => intro x y; rfl
  | succ n ih => intro x y; simp only [Lk]; rw [L_xor, ih]
theorem L_zero : L 0 = 0 := rfl
theorem Lk_zero (n : Nat) : Lk n 0 = 0 := by
  induction n with
  | zero => rfl
  | succ n ih => simp only [Lk]; rw [L_zero, ih]
theorem L_two (x : Nat) : L (2 * x) = x := by
  unfold L
  rw [if_neg (by omega)]
  omega
theorem Lk_add (m n x : Nat) : Lk (m + n) x = Lk n (Lk m x) := by
  induction m generalizing x with
  | zero => simp [Lk]
  | succ m ih => rw [show m + 1 + n = (m + n) + 1 from by omega]; simp only [Lk]; rw [ih]
theorem Lk_pow (n x : Nat) : Lk n (2 ^ n * x) = x := by
  induction n generalizing x with
  | zero => simp [Lk]
  | succ n ih =>
    simp only [Lk]
    rw [show 2 ^ (n + 1) * x = 2 * (2 ^ n * x) from by rw [Nat.pow_succ, Nat.mul_comm (2 ^ n) 2, Nat.mul_assoc], L_two, ih]
theorem L_lt {x : Nat} (h : x < 4294967296) : L x < 4294967296 := by
  unfold L
  split
  · exact Nat.xor_lt_two_pow (n := 32) (by omega) (by decide)
  · omega
theorem Lk_lt (n : Nat) : ∀ {x : Nat}, x < 4294967296 → Lk n x < 4294967296 := by
  induction n with
  | zero => intro x h; exact h
  | succ n ih => intro x h; exact ih (L_lt h)
theorem L_eq_zero {x : Nat} (h : x < 4294967296) (h0 : L x = 0) : x = 0 := by
  unfold L at h0
  split at h0
  · exfalso
    have h1 : x / 2 < 2 ^ 31 := by omega
    have h2 : (x / 2 ^^^ poly).testBit 31 = true := by
      rw [Nat.testBit_xor, Nat.testBit_lt_two_pow h1]
      decide
    rw [h0] at h2
    simp at h2
  · omega
theorem Lk_eq_zero (n : Nat) : ∀ {x : Nat}, x < 4294967296 → Lk n x = 0 → x = 0 := by
  induction n with
  | zero => intro x _ h; exact h
  | succ n ih => intro x h h0; exact L_eq_zero h (ih (L_lt h) h0)

/-- a byte by the table -/
def T (x b : Nat) : Nat := (x / 256) ^^^ Lk 8 ((x % 256) ^^^ b)
theorem split8 (x : Nat) : x = (256 * (x / 256)) ^^^ (x % 256) := by
  have h : 256 * (x / 256) + x % 256 = x := Nat.div_add_mod x 256
  have h2 := Nat.two_pow_add_eq_or_of_lt (i := 8) (b := x % 256) (by omega) (x / 256)
  have h3 : 2 ^ 8 * (x / 256) ^^^ x % 256 = 2 ^ 8 * (x / 256) + x % 256 := by
    rw [Nat.two_pow_add_eq_or_of_lt (by omega)]
    apply Nat.eq_of_testBit_eq
    intro i
    simp only [Nat.testBit_xor, Nat.testBit_or, Nat.testBit_two_pow_mul]
    by_cases hi : 8 ≤ i
    · have : (x % 256).testBit i = false := Nat.testBit_lt_two_pow (Nat.lt_of_lt_of_le (show x % 256 < 2 ^ 8 by omega) (Nat.pow_le_pow_right (by omega) hi))
      simp [this]
    · simp [hi]
  simp only [show (2 : Nat) ^ 8 = 256 from rfl] at h3
  rw [h3]
  omega
theorem T_eq (x b : Nat) : T x b = Lk 8 (x ^^^ b) := by
  unfold T
  have h1 : Lk 8 (x ^^^ b) = Lk 8 (2 ^ 8 * (x / 256)) ^^^ Lk 8 ((x % 256) ^^^ b) := by
    rw [← Lk_xor, ← Nat.xor_assoc]
    rw [show (2 : Nat) ^ 8 * (x / 256) = 256 * (x / 256) from rfl, ← split8]
  rw [h1, Lk_pow]

/-- bit by bit, as the reference does -/
def R (x c : Nat) : Nat := if (x ^^^ c) % 2 = 1 then (x / 2) ^^^ poly else x / 2
theorem R_eq (x c : Nat) : R x c = L (x ^^^ (c % 2)) := by
  unfold R L
  rw [xor_mod2, xor_mod2, xor_div2]
  rw [show c % 2 % 2 = c % 2 from by omega, show c % 2 / 2 = 0 from by omega, Nat.xor_zero]
def Rn : Nat → Nat → Nat → Nat
  | 0, x, _ => x
  | n + 1, x, b => Rn n (R x b) (b / 2)
theorem Rn_eq (n : Nat) : ∀ x b, b < 2 ^ n → Rn n x b = Lk n (x ^^^ b) := by
  induction n with
  | zero => intro x b h; simp [Rn, Lk]; have : b = 0 := by simpa using h
            subst this; simp
  | succ n ih =>
    intro x b h
    simp only [Rn, Lk]
    rw [ih _ _ (by rw [Nat.pow_succ] at h; omega), R_eq]
    congr 1
    have hb : b = (b % 2) ^^^ (2 * (b / 2)) := by
      have h1 := split2 b
      exact h1
    have h1 : L (x ^^^ b) = L (x ^^^ (b % 2)) ^^^ L (2 * (b / 2)) := by
      rw [← L_xor, Nat.xor_assoc, ← hb]
    rw [h1, L_two]
where
  split2 (b : Nat) : b = (b % 2) ^^^ (2 * (b / 2)) := by
    apply Nat.eq_of_testBit_eq
    intro i
    cases i with
    | zero => simp [Nat.testBit_zero, Nat.testBit_xor]
    | succ i =>
      rw [Nat.testBit_xor, Nat.testBit_succ, Nat.testBit_succ, Nat.testBit_succ]
      rw [show b % 2 / 2 = 0 from by omega, show 2 * (b / 2) / 2 = b / 2 from by omega]
      simp

/-- the register behind a list of bytes -/
def crc : Nat → List Nat → Nat
  | x, [] => x
  | x, b :: l => crc (T x b) l
theorem crc_append (x : Nat) (l m : List Nat) : crc x (l ++ m) = crc (crc x l) m := by
  induction l generalizing x with
  | nil => rfl
  | cons b l ih => exact ih _
theorem crc_lt {l : List Nat} (hl : ∀ b ∈ l, b < 256) : ∀ {x : Nat}, x < 4294967296 → crc x l < 4294967296 := by
  induction l with
  | nil => intro x h; exact h
  | cons b l ih =>
    intro x h
    refine ih (fun c hc => hl c (List.mem_cons_of_mem _ hc)) ?_
    rw [T_eq]
    have hb := hl b (by simp)
    exact Lk_lt 8 (Nat.xor_lt_two_pow (n := 32) (by omega) (by omega))
/-- the number that bytes are, the lowest first -/
def val : List Nat → Nat
  | [] => 0
  | b :: l => b ^^^ (256 * val l)
theorem crc_val (x : Nat) (l : List Nat) : crc x l = Lk (8 * l.length) (x ^^^ val l) := by
  induction l generalizing x with
  | nil => simp [crc, val, Lk]
  | cons b l ih =>
    simp only [crc, val, List.length_cons]
    rw [ih, T_eq, show 8 * (l.length + 1) = 8 + 8 * l.length from by omega, Lk_add, ← Nat.xor_assoc, Lk_xor 8 (x ^^^ b), show 256 * val l = 2 ^ 8 * val l from rfl, Lk_pow]
/-- two lists of one length that differ within a window of 32 bits have unlike registers -/
theorem crc_window {x p W : Nat} {l m : List Nat} (hlen : l.length = m.length) (hp : p ≤ 8 * l.length) (hW : W < 4294967296) (hd : val m = val l ^^^ (2 ^ p * W)) (h : crc x l = crc x m) : W = 0 := by
  rw [crc_val, crc_val, ← hlen, hd, ← Nat.xor_assoc, Lk_xor (8 * l.length) (x ^^^ val l)] at h
  have h0 : Lk (8 * l.length) (2 ^ p * W) = 0 := by
    have := congrArg (fun y => Lk (8 * l.length) (x ^^^ val l) ^^^ y) h
    simp only [Nat.xor_self, ← Nat.xor_assoc, Nat.zero_xor] at this
    exact this.symm
  rw [show 8 * l.length = p + (8 * l.length - p) from by omega, Lk_add, Lk_pow] at h0
  exact Lk_eq_zero _ hW h0

/-- the sum -/
def sum (l : List Nat) : Nat := crc 4294967295 l ^^^ 4294967295
theorem sum_lt {l : List Nat} (hl : ∀ b ∈ l, b < 256) : sum l < 4294967296 :=
  Nat.xor_lt_two_pow (n := 32) (crc_lt hl (by decide)) (by decide)
end Go.Acre.Crc
