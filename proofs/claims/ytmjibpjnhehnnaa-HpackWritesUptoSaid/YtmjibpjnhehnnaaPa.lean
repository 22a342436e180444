/- Numbers as bytes: written and read, as functions on lists; what is written is read as the same. No program in sight. -/
import Derived.Test.YtmjibpjnhehnnaaHc
namespace Go.Proofs.Ytmjibpjnhehnnaa.Pr
open Hf (Byte)

/-- The bytes behind the first one. -/
def put (n : Nat) : List Nat := if _h : n < 128 then [n] else (128 + n % 128) :: put (n / 128)
termination_by n
decreasing_by omega
theorem put_short {n : Nat} (h : n < 128) : put n = [n] := by rw [put, dif_pos h]
theorem put_long {n : Nat} (h : 128 ≤ n) : put n = (128 + n % 128) :: put (n / 128) := by rw [put, dif_neg (by omega)]
theorem put_byte (n : Nat) : Byte (put n) := by
  induction n using Nat.strongRecOn with
  | _ n ih =>
    by_cases h : n < 128
    · rw [put_short h]; intro x hx; simp at hx; omega
    · rw [put_long (by omega)]
      intro x hx
      rcases List.mem_cons.1 hx with rfl | hx
      · omega
      · exact ih (n / 128) (by omega) x hx
/-- A number behind the high bits of its first byte; m: what the low bits can hold, and one more. -/
def int (high m n : Nat) : List Nat := if n < m - 1 then [high + n] else (high + (m - 1)) :: put (n - (m - 1))
def wInt (high m n : Nat) : List Nat × Nat := if high % m = 0 then (int high m n, 0) else ([], 1)

/-- Reading: the bytes from place i on, n so far, the place's unit. -/
def more : List Nat → Nat → Nat → Nat → Nat × Nat × Nat
  | [], _, _, _ => (0, 0, 40)
  | b :: l, i, u, n => if 2147483647 < n + u * (b % 128) ∨ (i = 5 ∧ 128 ≤ b) then (0, 0, 41) else if b < 128 then (n + u * (b % 128), i + 1, 0) else more l (i + 1) (128 * u) (n + u * (b % 128))
def read (l : List Nat) (m : Nat) : Nat × Nat × Nat := match l with
  | [] => (0, 0, 40)
  | b :: t => if b % m < m - 1 then (b % m, 1, 0) else more t 1 1 (b % m)

/-- What is written is read as the same, whatever stands behind. -/
theorem more_put (n : Nat) (l : List Nat) (i u a : Nat) (hu : 0 < u) (hi : 1 ≤ i) (h5 : i + (put n).length ≤ 6) (hle : a + u * n ≤ 2147483647) : more (put n ++ l) i u a = (a + u * n, i + (put n).length, 0) := by
  induction n using Nat.strongRecOn generalizing i u a with
  | _ n ih =>
    by_cases h : n < 128
    · rw [put_short h]
      simp only [List.cons_append, List.nil_append, more]
      rw [Nat.mod_eq_of_lt h, if_neg (by omega), if_pos h]
      rfl
    · rw [put_long (by omega)] at h5 ⊢
      simp only [List.cons_append, List.length_cons] at h5 ⊢
      have h1 := ih (n / 128) (by omega) (i + 1) (128 * u) (a + u * (n % 128)) (by omega) (by omega) (by omega)
      have hn : u * n = u * (n % 128) + 128 * u * (n / 128) := by
        conv => lhs; rw [← Nat.mod_add_div n 128]
        rw [Nat.mul_add, Nat.mul_comm 128 u, Nat.mul_assoc]
      have hp : 0 < (put (n / 128)).length := by
        by_cases h2 : n / 128 < 128
        · rw [put_short h2]; simp
        · rw [put_long (by omega)]; simp
      rw [more, show (128 + n % 128) % 128 = n % 128 from by omega, if_neg (by
        rintro (h2 | ⟨h2, _⟩)
        · omega
        · omega), if_neg (by omega), h1 (by omega)]
      refine Prod.ext (by simp only; omega) (Prod.ext (by simp only; omega) rfl)
theorem put_len (n k : Nat) (h : n < 128 ^ k) (hk : 1 ≤ k) : (put n).length ≤ k := by
  induction k generalizing n with
  | zero => omega
  | succ k ih =>
    by_cases h2 : n < 128
    · rw [put_short h2]; simp
    · rw [put_long (by omega), List.length_cons]
      have h3 : n / 128 < 128 ^ k := by
        rw [Nat.pow_succ] at h
        exact Nat.div_lt_of_lt_mul (by rw [Nat.mul_comm]; exact h)
      have hk1 : 1 ≤ k := by
        rcases Nat.eq_zero_or_pos k with h4 | h4
        · subst h4; simp at h; omega
        · exact h4
      have := ih (n / 128) h3 hk1
      omega
/-- Of fewer bytes there is no number. -/
theorem more_cut (n : Nat) (i u a c : Nat) (hc : c < (put n).length) (hi : 1 ≤ i) (h5 : i + (put n).length ≤ 6) (hle : a + u * n ≤ 2147483647) : more ((put n).take c) i u a = (0, 0, 40) := by
  induction n using Nat.strongRecOn generalizing i u a c with
  | _ n ih =>
    cases c with
    | zero => rfl
    | succ c =>
      by_cases h : n < 128
      · rw [put_short h] at hc; simp at hc
      · rw [put_long (by omega)] at h5 hc ⊢
        simp only [List.take_succ_cons, List.length_cons] at h5 hc ⊢
        have hn : u * n = u * (n % 128) + 128 * u * (n / 128) := by
          conv => lhs; rw [← Nat.mod_add_div n 128]
          rw [Nat.mul_add, Nat.mul_comm 128 u, Nat.mul_assoc]
        have h1 := ih (n / 128) (by omega) (i + 1) (128 * u) (a + u * (n % 128)) c (by omega) (by omega) (by omega)
        rw [more, show (128 + n % 128) % 128 = n % 128 from by omega, if_neg (by
          rintro (h2 | ⟨h2, _⟩)
          · omega
          · omega), if_neg (by omega), h1 (by omega)]
theorem int_len (high m n : Nat) (hn : n ≤ 2147483647) : 1 ≤ (int high m n).length ∧ (int high m n).length ≤ 6 := by
  unfold int
  split
  · simp
  · have := put_len (n - (m - 1)) 5 (by have : (128 : Nat) ^ 5 = 34359738368 := by decide
                                        omega) (by omega)
    simp
    omega
theorem read_int (high m n : Nat) (l : List Nat) (hm : 2 ≤ m) (hh : high % m = 0) (hn : n ≤ 2147483647) : read (int high m n ++ l) m = (n, (int high m n).length, 0) := by
  unfold int
  split
  · rename_i h
    simp only [List.cons_append, List.nil_append, read]
    have h1 : (high + n) % m = n := by rw [Nat.add_mod, hh, Nat.zero_add, Nat.mod_mod, Nat.mod_eq_of_lt (by omega)]
    rw [h1, if_pos h]
    rfl
  · rename_i h
    simp only [List.cons_append, read]
    have h1 : (high + (m - 1)) % m = m - 1 := by rw [Nat.add_mod, hh, Nat.zero_add, Nat.mod_mod, Nat.mod_eq_of_lt (by omega)]
    have h2 := put_len (n - (m - 1)) 5 (by have : (128 : Nat) ^ 5 = 34359738368 := by decide
                                           omega) (by omega)
    rw [h1, if_neg (by omega), more_put _ _ _ _ _ (by omega) (by omega) (by omega) (by omega), List.length_cons]
    refine Prod.ext (by simp only; omega) (Prod.ext (by simp only; omega) rfl)
theorem read_cut (high m n c : Nat) (hm : 2 ≤ m) (hh : high % m = 0) (hn : n ≤ 2147483647) (hc : c < (int high m n).length) : read ((int high m n).take c) m = (0, 0, 40) := by
  cases c with
  | zero => rfl
  | succ c =>
    unfold int at hc ⊢
    split at hc
    · simp at hc
    · rename_i h
      rw [if_neg h]
      simp only [List.take_succ_cons, List.length_cons, read] at hc ⊢
      have h1 : (high + (m - 1)) % m = m - 1 := by rw [Nat.add_mod, hh, Nat.zero_add, Nat.mod_mod, Nat.mod_eq_of_lt (by omega)]
      have h2 := put_len (n - (m - 1)) 5 (by have : (128 : Nat) ^ 5 = 34359738368 := by decide
                                             omega) (by omega)
      rw [h1, if_neg (by omega), more_cut _ _ _ _ _ (by omega) (by omega) (by omega) (by omega)]
end Go.Proofs.Ytmjibpjnhehnnaa.Pr
