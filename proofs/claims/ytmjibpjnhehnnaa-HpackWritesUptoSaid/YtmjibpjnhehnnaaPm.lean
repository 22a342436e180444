/- Texts as blocks write them: what is written is read as the same; of fewer bytes there is none. No program in sight. -/
import Derived.Test.YtmjibpjnhehnnaaPg
namespace Go.Proofs.Ytmjibpjnhehnnaa.Pr
open Hf (Byte)

theorem int_head (h n : Nat) (z : List Nat) : (int h 128 n ++ z).getD 0 0 = h + min n 127 := by
  unfold int
  split
  · rename_i hlt
    simp only [List.cons_append, List.nil_append, List.getD_cons_zero]
    omega
  · rename_i hlt
    simp only [List.cons_append, List.getD_cons_zero]
    omega
/-- A text behind its number, whatever stands behind. -/
theorem readStr_gen (h : Nat) (hh : h = 0 ∨ h = 128) (c z : List Nat) (hc : c.length ≤ 2147483647) (most : Nat) :
    readStr (int h 128 c.length ++ c ++ z) most = if most < (if h = 128 then (c.length + 3) / 4 else c.length) then ([], 0, 3) else if h = 128 then (if (Hf.decode c most).2 ≠ 0 then ([], 0, (Hf.decode c most).2) else ((Hf.decode c most).1, (int h 128 c.length).length + c.length, 0)) else (c, (int h 128 c.length).length + c.length, 0) := by
  have hr := read_int h 128 c.length (c ++ z) (by omega) (by omega) hc
  have hd := int_head h c.length (c ++ z)
  unfold readStr
  rw [List.append_assoc]
  simp only [hr, hd]
  rw [if_neg (by simp)]
  have hlen : ¬ (int h 128 c.length ++ (c ++ z)).length - (int h 128 c.length).length < c.length := by simp only [List.length_append]; omega
  have hdrop : ((int h 128 c.length ++ (c ++ z)).drop (int h 128 c.length).length).take c.length = c := by rw [List.drop_left, List.take_left]
  rw [if_neg hlen, hdrop]
  rcases hh with rfl | rfl
  · have h1 : ¬ 128 ≤ 0 + min c.length 127 := by omega
    have h2 : ¬ (0 : Nat) = 128 := by omega
    simp only [if_neg h1, if_neg h2]
  · have h1 : 128 ≤ 128 + min c.length 127 := by omega
    simp only [if_pos h1, if_true]
/-- Of fewer bytes there is none. -/
theorem readStr_short (h : Nat) (hh : h = 0 ∨ h = 128) (c : List Nat) (hc : c.length ≤ 2147483647) (most k : Nat) (hm : ¬ most < (if h = 128 then (c.length + 3) / 4 else c.length)) (hk : k < (int h 128 c.length ++ c).length) :
    readStr ((int h 128 c.length ++ c).take k) most = ([], 0, 40) := by
  by_cases hlt : k < (int h 128 c.length).length
  · have hr := read_cut h 128 c.length k (by omega) (by omega) hc hlt
    unfold readStr
    rw [List.take_append_of_le_length (by omega)]
    simp only [hr]
    rw [if_pos (by omega)]
  · have ht : (int h 128 c.length ++ c).take k = int h 128 c.length ++ c.take (k - (int h 128 c.length).length) := by
      rw [List.take_append, List.take_of_length_le (by omega)]
    have hr := read_int h 128 c.length (c.take (k - (int h 128 c.length).length)) (by omega) (by omega) hc
    have hd := int_head h c.length (c.take (k - (int h 128 c.length).length))
    rw [List.length_append] at hk
    unfold readStr
    rw [ht]
    simp only [hr, hd]
    rw [if_neg (by simp)]
    have hlen : (int h 128 c.length ++ c.take (k - (int h 128 c.length).length)).length - (int h 128 c.length).length < c.length := by simp only [List.length_append, List.length_take]; omega
    rw [if_pos hlen]
    rcases hh with rfl | rfl
    · have h1 : ¬ 128 ≤ 0 + min c.length 127 := by omega
      have h2 : ¬ (0 : Nat) = 128 := by omega
      simp only [if_neg h1, if_neg h2] at hm ⊢
      rw [if_neg hm]
    · have h1 : 128 ≤ 128 + min c.length 127 := by omega
      simp only [if_true] at hm
      simp only [if_pos h1]
      rw [if_neg hm]

theorem int_len5 (h n : Nat) (hn : n < 268435456) : 1 ≤ (int h 128 n).length ∧ (int h 128 n).length ≤ 5 := by
  unfold int
  split
  · simp
  · have := put_len (n - (128 - 1)) 4 (by have : (128 : Nat) ^ 4 = 268435456 := by decide
                                          omega) (by omega)
    simp
    omega
theorem str_len (l : List Nat) (hl : l.length < 268435456) : 1 ≤ (str l).length ∧ (str l).length ≤ l.length + 5 := by
  unfold str
  split
  · have := int_len5 128 (Hf.enc l).length (by omega)
    simp only [List.length_append]
    omega
  · have := int_len5 0 l.length hl
    simp only [List.length_append]
    omega
theorem readStr_str (l z : List Nat) (hb : Byte l) (hl : l.length < 268435456) : readStr (str l ++ z) l.length = (l, (str l).length, 0) := by
  unfold str
  split
  · rename_i h
    have hd := Hf.decode_enc l hb l.length
    rw [if_pos (.inr (Nat.le_refl _))] at hd
    rw [readStr_gen 128 (.inr rfl) _ z (by omega), hd, if_neg (by rw [if_pos rfl]; omega), if_pos rfl, if_neg (by simp), List.length_append]
  · rename_i h
    have h2 : ¬ (0 : Nat) = 128 := by omega
    rw [readStr_gen 0 (.inl rfl) _ z (by omega)]
    simp only [if_neg h2]
    rw [if_neg (by omega), List.length_append]
theorem readStr_cut (l : List Nat) (k : Nat) (hl : l.length < 268435456) (hk : k < (str l).length) : readStr ((str l).take k) l.length = ([], 0, 40) := by
  unfold str at hk ⊢
  split at hk
  · rename_i h
    rw [if_pos h]
    exact readStr_short 128 (.inr rfl) _ (by omega) _ _ (by rw [if_pos rfl]; omega) hk
  · rename_i h
    rw [if_neg h]
    exact readStr_short 0 (.inl rfl) _ (by omega) _ _ (by rw [if_neg (show ¬ (0 : Nat) = 128 by omega)]; omega) hk
theorem readStr_less (l : List Nat) (hb : Byte l) (hl : l.length < 268435456) (h0 : 0 < l.length) : (readStr (str l) (l.length - 1)).2.2 = 3 := by
  have e : str l = str l ++ [] := (List.append_nil _).symm
  rw [e]
  unfold str
  split
  · rename_i h
    have hd := Hf.decode_enc l hb (l.length - 1)
    rw [if_neg (by omega)] at hd
    rw [readStr_gen 128 (.inr rfl) _ [] (by omega), hd]
    simp only [if_true]
    split
    · rfl
    · rfl
  · rename_i h
    rw [readStr_gen 0 (.inl rfl) _ [] (by omega), if_pos (by rw [if_neg (show ¬ (0 : Nat) = 128 by omega)]; omega)]
/-- Coded just if that makes it shorter. -/
theorem str_read (l : List Nat) (hl : l.length ≤ 2147483647) : (read (str l) 128) = (min (Hf.enc l).length l.length, (str l).length - min (Hf.enc l).length l.length, 0) ∧ min (Hf.enc l).length l.length ≤ (str l).length ∧ (if (Hf.enc l).length < l.length then 128 ≤ (str l).getD 0 0 else (str l).getD 0 0 < 128) ∧ 1 ≤ (str l).length ∧ (str l).length ≤ l.length + 6 := by
  unfold str
  by_cases h : (Hf.enc l).length < l.length
  · simp only [if_pos h]
    rw [read_int 128 128 _ _ (by omega) (by omega) (by omega), int_head, List.length_append]
    have := int_len 128 128 (Hf.enc l).length (by omega)
    refine ⟨Prod.ext (by simp only; omega) (Prod.ext (by simp only; omega) rfl), by omega, by omega, by omega, by omega⟩
  · simp only [if_neg h]
    rw [read_int 0 128 _ _ (by omega) (by omega) (by omega), int_head, List.length_append]
    have := int_len 0 128 l.length (by omega)
    refine ⟨Prod.ext (by simp only; omega) (Prod.ext (by simp only; omega) rfl), by omega, by omega, by omega, by omega⟩
end Go.Proofs.Ytmjibpjnhehnnaa.Pr
