/- The coder's register: shifted, filled and read out, as lists of bits. No program in sight. -/
import Derived.Test.YtmjibpjnhehnnaaHc
namespace Go.Proofs.Ytmjibpjnhehnnaa.Hf

theorem mod_parts (D M N C : Nat) (hC : C < M) : (D * M + C) % (N * M) = D % N * M + C := by
  rcases Nat.eq_zero_or_pos N with hN | hN
  · subst hN; simp
  · have h1 : D * M + C = N * M * (D / N) + (D % N * M + C) := by
      have h := Nat.div_add_mod D N
      calc D * M + C = (N * (D / N) + D % N) * M + C := by rw [h]
        _ = N * M * (D / N) + (D % N * M + C) := by rw [Nat.add_mul, Nat.mul_right_comm, Nat.add_assoc]
    have h2 : D % N * M + C < N * M := by
      have h3 : D % N + 1 ≤ N := Nat.mod_lt D hN
      have h4 : (D % N + 1) * M ≤ N * M := Nat.mul_le_mul_right M h3
      rw [Nat.add_mul, Nat.one_mul] at h4
      omega
    rw [h1, Nat.mul_add_mod, Nat.mod_eq_of_lt h2]
theorem shl_eq (B L : Nat) (hL : L ≤ 64) : B * 2 ^ L % 18446744073709551616 = B % 2 ^ (64 - L) * 2 ^ L := by
  have h : (18446744073709551616 : Nat) = 2 ^ (64 - L) * 2 ^ L := by
    rw [← Nat.pow_add, Nat.sub_add_cancel hL]
  rw [h, Nat.mul_mod_mul_right]
theorem shl_or (B L C : Nat) (hL : L ≤ 64) (hC : C < 2 ^ L) : B * 2 ^ L % 18446744073709551616 ||| C = B % 2 ^ (64 - L) * 2 ^ L + C := by
  rw [shl_eq B L hL, Nat.mul_comm]
  exact (Nat.two_pow_add_eq_or_of_lt hC _).symm
theorem reg_lt (B L C : Nat) (hL : L ≤ 64) (hC : C < 2 ^ L) : B % 2 ^ (64 - L) * 2 ^ L + C < 18446744073709551616 := by
  have h : (18446744073709551616 : Nat) = 2 ^ (64 - L) * 2 ^ L := by
    rw [← Nat.pow_add, Nat.sub_add_cancel hL]
  have h3 : B % 2 ^ (64 - L) + 1 ≤ 2 ^ (64 - L) := Nat.mod_lt B (Nat.two_pow_pos _)
  have h4 := Nat.mul_le_mul_right (2 ^ L) h3
  rw [Nat.add_mul, Nat.one_mul] at h4
  omega
theorem reg_mod (B L C n v : Nat) (hn : n + L ≤ 64) (hC : C < 2 ^ L) (hv : B % 2 ^ n = v) : (B % 2 ^ (64 - L) * 2 ^ L + C) % 2 ^ (n + L) = v * 2 ^ L + C := by
  rw [Nat.pow_add, mod_parts _ _ _ _ hC]
  have hd : 2 ^ n ∣ 2 ^ (64 - L) := Nat.pow_dvd_pow 2 (by omega)
  rw [Nat.mod_mod_of_dvd _ hd, hv]
/-- The next eight bits are read out of the register. -/
theorem reg_read (B : Nat) (Z : List Nat) (hZ : Bits Z) (h8 : 8 ≤ Z.length) (hB : B % 2 ^ Z.length = val Z) : B / 2 ^ (Z.length - 8) % 256 = val (Z.take 8) ∧ B % 2 ^ (Z.length - 8) = val (Z.drop 8) := by
  have hp : 2 ^ Z.length = 2 ^ (Z.length - 8) * 256 := by
    have h : Z.length = Z.length - 8 + 8 := by omega
    calc 2 ^ Z.length = 2 ^ (Z.length - 8 + 8) := by rw [← h]
      _ = _ := by rw [Nat.pow_add]
  have hv : val Z = val (Z.take 8) * 2 ^ (Z.length - 8) + val (Z.drop 8) := by
    have h := val_append (Z.take 8) (Z.drop 8)
    rw [List.take_append_drop, List.length_drop] at h
    exact h
  have hd : val (Z.drop 8) < 2 ^ (Z.length - 8) := by
    have h := val_lt (hZ.drop 8)
    rw [List.length_drop] at h
    exact h
  rw [hp] at hB
  have hM : 0 < 2 ^ (Z.length - 8) := Nat.two_pow_pos _
  constructor
  · rw [← Nat.mod_mul_right_div_self, hB, hv, Nat.mul_comm, Nat.mul_add_div hM, Nat.div_eq_of_lt hd, Nat.add_zero]
  · have h := Nat.mod_mod_of_dvd B (Nat.dvd_mul_right (2 ^ (Z.length - 8)) 256)
    rw [hB, hv, Nat.mul_comm, Nat.mul_add_mod, Nat.mod_eq_of_lt hd] at h
    exact h.symm
theorem left_bits {bs : List Nat} (h : Bits bs) : Bits (left bs) := h.drop _
/-- The last byte. -/
theorem last_byte (Z : List Nat) (hZ : Bits Z) (h0 : 0 < Z.length) (h8 : Z.length < 8) (B : Nat) (hB : B % 2 ^ Z.length = val Z) :
    (B * 2 ^ (8 - Z.length) % 18446744073709551616 % 256) ||| (255 / 2 ^ Z.length) = val (Z ++ List.replicate (8 - Z.length) 1) ∧ val (Z ++ List.replicate (8 - Z.length) 1) < 256 := by
  have hlt : val (Z ++ List.replicate (8 - Z.length) 1) < 256 := by
    have h := val_lt (hZ.append (Bits.ones (8 - Z.length)))
    rw [List.length_append, List.length_replicate, show Z.length + (8 - Z.length) = 8 from by omega] at h
    exact h
  refine ⟨?_, hlt⟩
  rw [val_append, val_ones, List.length_replicate]
  have hv := val_lt hZ
  generalize val Z = v at hB hv
  have h1 : B * 2 ^ (8 - Z.length) % 18446744073709551616 % 256 = v * 2 ^ (8 - Z.length) := by
    rw [Nat.mod_mod_of_dvd _ (by decide : 256 ∣ 18446744073709551616)]
    have h256 : 256 = 2 ^ Z.length * 2 ^ (8 - Z.length) := by rw [← Nat.pow_add, show Z.length + (8 - Z.length) = 8 from by omega]
    rw [h256, Nat.mul_mod_mul_right, hB]
  have h2 : 255 / 2 ^ Z.length = 2 ^ (8 - Z.length) - 1 := by
    have : Z.length = 1 ∨ Z.length = 2 ∨ Z.length = 3 ∨ Z.length = 4 ∨ Z.length = 5 ∨ Z.length = 6 ∨ Z.length = 7 := by omega
    rcases this with h | h | h | h | h | h | h <;> rw [h]
  rw [h1, h2, Nat.mul_comm]
  have hp := Nat.two_pow_pos (8 - Z.length)
  exact (Nat.two_pow_add_eq_or_of_lt (by omega) v).symm
theorem enc_end (bs : List Nat) (h : (left bs).length = 0) : pack (padded bs) = pack bs := by
  have hp : pad bs.length = 0 := by
    rw [left_length] at h
    unfold pad
    omega
  rw [padded, hp]
  simp
theorem enc_last (bs : List Nat) (h : 0 < (left bs).length) : pack (padded bs) = pack bs ++ [val (left bs ++ List.replicate (8 - (left bs).length) 1)] := by
  have hl := left_lt bs
  have hp : pad bs.length = 8 - (left bs).length := by
    rw [left_length] at h hl ⊢
    unfold pad
    omega
  rw [padded, hp, (pack_append bs _).1]
  congr 1
  have := pack_append8 (left bs ++ List.replicate (8 - (left bs).length) 1) [] (by rw [List.length_append, List.length_replicate]; omega)
  rw [List.append_nil, pack_short (bs := []) (by simp)] at this
  exact this
theorem pack_step (bs cs : List Nat) : pack (bs ++ cs) = pack bs ++ pack (left bs ++ cs) ∧ left (bs ++ cs) = left (left bs ++ cs) := pack_append bs cs
end Go.Proofs.Ytmjibpjnhehnnaa.Hf
