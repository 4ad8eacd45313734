/- Plain facts: numbers as rows of bits, the lowest first. -/
namespace Go.Proofs.YtjielagabnkimaaDoor

/-- the n lowest bits of x, the lowest first -/
def low (x : Nat) : Nat → List Bool
  | 0 => []
  | n + 1 => (x % 2 == 1) :: low (x / 2) n
/-- the number of a row of bits, the lowest first -/
def num : List Bool → Nat
  | [] => 0
  | b :: l => (if b then 1 else 0) + 2 * num l
theorem low_length (n x : Nat) : (low x n).length = n := by
  induction n generalizing x with
  | zero => rfl
  | succ n ih => simp [low, ih]
theorem num_append : ∀ a b : List Bool, num (a ++ b) = num a + 2 ^ a.length * num b
  | [], b => by simp [num]
  | x :: a, b => by
    rw [List.cons_append, num, num, num_append a b, List.length_cons, Nat.pow_succ]
    have : 2 * (num a + 2 ^ a.length * num b) = 2 * num a + 2 ^ a.length * 2 * num b := by rw [Nat.mul_add, ← Nat.mul_assoc, Nat.mul_comm 2 (2 ^ a.length)]
    omega
theorem num_lt : ∀ a : List Bool, num a < 2 ^ a.length
  | [] => by simp [num]
  | x :: a => by
    have := num_lt a
    rw [num, List.length_cons, Nat.pow_succ]
    cases x <;> simp <;> omega
theorem num_low (n x : Nat) : num (low x n) = x % 2 ^ n := by
  induction n generalizing x with
  | zero => simp [low, num, Nat.mod_one]
  | succ n ih =>
    rw [low, num, ih, Nat.pow_succ, Nat.mul_comm (2 ^ n) 2, Nat.mod_mul]
    by_cases h : x % 2 = 1
    · simp [h]
    · have h0 : x % 2 = 0 := by omega
      simp [h0]
theorem low_num : ∀ l : List Bool, low (num l) l.length = l
  | [] => rfl
  | b :: l => by
    rw [List.length_cons, low, num]
    have h1 : ((if b then 1 else 0) + 2 * num l) / 2 = num l := by cases b <;> simp <;> omega
    rw [h1, low_num l]
    cases b <;> simp <;> omega
theorem low_mod (n x : Nat) : low (x % 2 ^ n) n = low x n := by
  have h := low_num (low x n)
  rwa [low_length, num_low] at h
theorem low_add (m n x : Nat) : low x (m + n) = low x m ++ low (x / 2 ^ m) n := by
  induction m generalizing x with
  | zero => simp [low]
  | succ m ih => rw [show m + 1 + n = (m + n) + 1 by omega, low, low, ih, List.cons_append, Nat.div_div_eq_div_mul, Nat.pow_succ, Nat.mul_comm 2]
theorem low_join {a m : Nat} (h : a < 2 ^ m) (b n : Nat) : low (a + b * 2 ^ m) (m + n) = low a m ++ low b n := by
  rw [low_add, Nat.add_mul_div_right _ _ (Nat.two_pow_pos m), Nat.div_eq_of_lt h, Nat.zero_add]
  congr 1
  rw [← low_mod, Nat.add_mul_mod_self_right, low_mod]
theorem low_inj {a b n : Nat} (ha : a < 2 ^ n) (hb : b < 2 ^ n) (h : low a n = low b n) : a = b := by
  have h2 : num (low a n) = num (low b n) := by rw [h]
  rwa [num_low, num_low, Nat.mod_eq_of_lt ha, Nat.mod_eq_of_lt hb] at h2

/-- the n lowest bits of x, the highest first -/
def high (x n : Nat) : List Bool := (low x n).reverse
theorem high_length (n x : Nat) : (high x n).length = n := by rw [high, List.length_reverse, low_length]
theorem high_inj {a b n : Nat} (ha : a < 2 ^ n) (hb : b < 2 ^ n) (h : high a n = high b n) : a = b := low_inj ha hb (List.reverse_inj.1 h)
theorem low_snoc (n x : Nat) : low x (n + 1) = low x n ++ [x / 2 ^ n % 2 == 1] := by rw [low_add]; rfl
theorem high_succ (n x : Nat) : high x (n + 1) = high (x / 2) n ++ [x % 2 == 1] := by rw [high, low, List.reverse_cons, high]
theorem high_snoc (x : Nat) (b : Bool) (n : Nat) : high (2 * x + (if b then 1 else 0)) (n + 1) = high x n ++ [b] := by
  rw [high_succ]
  have h1 : (2 * x + (if b then 1 else 0)) / 2 = x := by cases b <;> simp <;> omega
  rw [h1]
  cases b <;> simp <;> omega

/-- a code turned -/
def turnN : Nat → Nat → Nat → Nat
  | y, _, 0 => y
  | y, x, n + 1 => turnN (2 * y + x % 2) (x / 2) n
theorem turnN_eq : ∀ (n y x : Nat), turnN y x n = y * 2 ^ n + turnN 0 x n
  | 0, y, x => by simp [turnN]
  | n + 1, y, x => by
    rw [turnN, turnN_eq n, turnN, turnN_eq n (2 * 0 + x % 2), Nat.mul_zero, Nat.zero_add, Nat.pow_succ, Nat.add_mul, Nat.mul_comm 2 y, Nat.mul_assoc, Nat.mul_comm 2 (2 ^ n)]
    omega
theorem low_turnN : ∀ (n x : Nat), turnN 0 x n < 2 ^ n ∧ low (turnN 0 x n) n = high x n
  | 0, x => by simp [turnN, low, high]
  | n + 1, x => by
    obtain ⟨h1, h2⟩ := low_turnN n (x / 2)
    rw [turnN, Nat.mul_zero, Nat.zero_add, turnN_eq, high_succ]
    constructor
    · have h2 : x % 2 < 2 := Nat.mod_lt _ (by decide)
      have h3 : x % 2 * 2 ^ n ≤ 1 * 2 ^ n := Nat.mul_le_mul_right _ (by omega)
      rw [Nat.pow_succ]; omega
    · rw [Nat.add_comm, low_join h1, h2]
      simp only [low]
      have : x % 2 % 2 = x % 2 := Nat.mod_mod _ _
      rw [this]
end Go.Proofs.YtjielagabnkimaaDoor
