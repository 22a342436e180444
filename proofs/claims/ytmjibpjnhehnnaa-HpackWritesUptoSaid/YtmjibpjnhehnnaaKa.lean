/- Blocks of fields as plain functions: how they are read. No program in sight. -/
import Derived.Test.YtmjibpjnhehnnaaPm
import Derived.Test.YtmjibpjnhehnnaaSt
import Derived.Test.YtmjibpjnhehnnaaTa
namespace Go.Proofs.Ytmjibpjnhehnnaa.Hk

/-- A block that is being read: the table, its room, what is left, whether a field has come, their weight, what is kept. -/
structure Rd where
  l : List Tk.Fd
  m : Nat
  rest : List Nat
  begun : Bool
  weight : Nat
  out : List Tk.Fd

def most : Nat := 2147483647
def take (lst : Nat) (f : Tk.Fd) (s : Rd) : Rd := { s with begun := true, weight := s.weight + Tk.wt f, out := if s.weight + Tk.wt f ≤ lst then s.out ++ [f] else s.out }
/-- A text: itself, what is left, an error's number. -/
def lit (rest : List Nat) : ByteArray × List Nat × Nat := (strN (Pr.readStr rest most).1, rest.drop (Pr.readStr rest most).2.1, (Pr.readStr rest most).2.2)
/-- A field's name. -/
def name (n : Nat) (l : List Tk.Fd) (rest : List Nat) : ByteArray × List Nat × Nat := if n = 0 then lit rest else ((Tk.at_ (Tk.all l) (n : Int)).1.1, rest, if (Tk.at_ (Tk.all l) (n : Int)).2 then 0 else 50)
/-- A field whose value is spelt. -/
def spelt (lst n : Nat) (add : Bool) (s : Rd) : Nat × Rd :=
  if (name n s.l s.rest).2.2 ≠ 0 then ((name n s.l s.rest).2.2, { s with rest := (name n s.l s.rest).2.1 })
  else if (lit (name n s.l s.rest).2.1).2.2 ≠ 0 then ((lit (name n s.l s.rest).2.1).2.2, { s with rest := (lit (name n s.l s.rest).2.1).2.1 })
  else (0, take lst ((name n s.l s.rest).1, (lit (name n s.l s.rest).2.1).1) { s with rest := (lit (name n s.l s.rest).2.1).2.1, l := if add then Tk.add s.m ((name n s.l s.rest).1, (lit (name n s.l s.rest).2.1).1) s.l else s.l })
def bits (b : Nat) : Nat := if 128 ≤ b then 7 else if 64 ≤ b then 6 else if 32 ≤ b then 5 else 4
/-- What is left behind a number. -/
def behind (s : Rd) (k : Nat) : Rd := { s with rest := s.rest.drop k }
/-- A representation whose number has been read. -/
def after (lst lim b n : Nat) (s : Rd) : Nat × Rd :=
  if b = 5 then (if s.begun = true ∨ lim < n then (60, s) else (0, { s with l := Tk.shr n s.l, m := n }))
  else if lim < s.m then (60, s)
  else if b = 7 then (if (Tk.at_ (Tk.all s.l) (n : Int)).2 then (0, take lst (Tk.at_ (Tk.all s.l) (n : Int)).1 s) else (50, s))
  else spelt lst n (b == 6) s
def num (s : Rd) : Nat × Nat × Nat := Pr.read s.rest (2 ^ bits (s.rest.getD 0 0))
/-- A representation. -/
def next (lst lim : Nat) (s : Rd) : Nat × Rd :=
  if (num s).2.2 ≠ 0 then ((num s).2.2, behind s (num s).2.1) else after lst lim (bits (s.rest.getD 0 0)) (num s).1 (behind s (num s).2.1)
/-- All of them. -/
def readN (lst lim : Nat) : Nat → Rd → Nat × Rd
  | 0, s => (0, s)
  | k + 1, s => if s.rest = [] then (0, s) else if (next lst lim s).1 ≠ 0 then next lst lim s else readN lst lim k (next lst lim s).2
def start (l : List Tk.Fd) (m : Nat) (block : List Nat) : Rd := ⟨l, m, block, false, 0, []⟩
def run (lst lim : Nat) (l : List Tk.Fd) (m : Nat) (block : List Nat) : Nat × Rd := readN lst lim block.length (start l m block)
/-- What a decoder answers: its fields, an error's number. -/
def answer (lst : Nat) (r : Nat × Rd) : List Tk.Fd × Nat := if r.1 ≠ 0 then ([], r.1) else if lst < r.2.weight then ([], 61) else (r.2.out, 0)

theorem bits_le (b : Nat) : 4 ≤ bits b ∧ bits b ≤ 7 := by unfold bits; split <;> (try split) <;> (try split) <;> omega
theorem pow_bits (b : Nat) : 2 ^ bits b ≤ 256 ∧ 16 ≤ 2 ^ bits b := by
  have := bits_le b
  have h : bits b = 4 ∨ bits b = 5 ∨ bits b = 6 ∨ bits b = 7 := by omega
  rcases h with h | h | h | h <;> rw [h] <;> decide
theorem readStr_used (l : List Nat) (m : Nat) : (Pr.readStr l m).2.1 ≤ l.length := by
  unfold Pr.readStr
  simp only
  split
  · simp
  · rename_i h
    have hb := Pr.read_bound l 128 (by omega) (by simpa using h)
    generalize (if 128 ≤ l.getD 0 0 then ((Pr.read l 128).1 + 3) / 4 else (Pr.read l 128).1) = t
    split
    · simp
    · split
      · simp
      · rename_i h2
        split
        · split
          · simp
          · simp only; omega
        · simp only; omega
theorem lit_len (rest : List Nat) : (lit rest).2.1.length ≤ rest.length := by unfold lit; simp only [List.length_drop]; omega
theorem name_len (n : Nat) (l : List Tk.Fd) (rest : List Nat) : (name n l rest).2.1.length ≤ rest.length := by
  unfold name
  split
  · exact lit_len rest
  · exact Nat.le_refl _
theorem spelt_len (lst n : Nat) (add : Bool) (s : Rd) : (spelt lst n add s).2.rest.length ≤ s.rest.length := by
  unfold spelt
  split
  · exact name_len _ _ _
  · split
    · exact Nat.le_trans (lit_len _) (name_len _ _ _)
    · simp only [take]
      exact Nat.le_trans (lit_len _) (name_len _ _ _)
theorem after_len (lst lim b n : Nat) (s : Rd) : (after lst lim b n s).2.rest.length ≤ s.rest.length := by
  unfold after
  split
  · split <;> exact Nat.le_refl _
  · split
    · exact Nat.le_refl _
    · split
      · split
        · simp [take]
        · exact Nat.le_refl _
      · exact spelt_len _ _ _ _
theorem next_len (lst lim : Nat) (s : Rd) (h : (next lst lim s).1 = 0) : (next lst lim s).2.rest.length < s.rest.length := by
  unfold next at h ⊢
  split at h
  · rename_i h1; exact absurd h h1
  · rename_i h1
    rw [if_neg h1]
    have hb := Pr.read_bound s.rest (2 ^ bits (s.rest.getD 0 0)) (pow_bits _).1 (by simpa [num] using h1)
    refine Nat.lt_of_le_of_lt (after_len _ _ _ _ _) ?_
    simp only [behind, List.length_drop]
    unfold num
    omega
theorem readN_nil (lst lim k : Nat) (s : Rd) (h : s.rest = []) : readN lst lim k s = (0, s) := by
  cases k with
  | zero => rfl
  | succ k => rw [readN, if_pos h]
theorem readN_step (lst lim k : Nat) (s : Rd) (h : s.rest ≠ []) (hk : s.rest.length ≤ k) (h0 : (next lst lim s).1 = 0) : readN lst lim k s = readN lst lim (k - 1) (next lst lim s).2 := by
  cases k with
  | zero => exact absurd (List.eq_nil_of_length_eq_zero (by omega)) h
  | succ k => rw [readN, if_neg h, if_neg (by simpa using h0), Nat.add_sub_cancel]
theorem readN_stop (lst lim k : Nat) (s : Rd) (h : s.rest ≠ []) (hk : s.rest.length ≤ k) (h0 : (next lst lim s).1 ≠ 0) : readN lst lim k s = next lst lim s := by
  cases k with
  | zero => exact absurd (List.eq_nil_of_length_eq_zero (by omega)) h
  | succ k => rw [readN, if_neg h, if_pos h0]

/-! ### what stays within bounds -/
theorem shr_sum_le (m : Nat) (l : List Tk.Fd) : Tk.sum (Tk.shr m l) ≤ Tk.sum l := by
  obtain ⟨k, hk⟩ := (Tk.shr_prop m l).2
  rw [hk]
  have := Tk.sum_append (l.take k) (l.drop k)
  rw [List.take_append_drop] at this
  omega
/-- The table is within its room, the room within the limit's greatest. -/
def Rd.In (B : Nat) (s : Rd) : Prop := Tk.sum s.l ≤ s.m ∧ s.m ≤ B
theorem spelt_in {B lst n : Nat} {add : Bool} {s : Rd} (h : s.In B) : (spelt lst n add s).2.In B := by
  unfold spelt
  split
  · exact h
  · split
    · exact h
    · refine ⟨?_, h.2⟩
      simp only [take]
      split
      · exact Tk.add_sum _ _ _
      · exact h.1
theorem after_in {B lst lim b n : Nat} {s : Rd} (h : s.In B) (hl : lim ≤ B) : (after lst lim b n s).2.In B := by
  unfold after
  split
  · split
    · exact h
    · rename_i h1
      exact ⟨Tk.shr_sum _ _, by simp only; omega⟩
  · split
    · exact h
    · split
      · split
        · exact h
        · exact h
      · exact spelt_in h
theorem next_in {B lst lim : Nat} {s : Rd} (h : s.In B) (hl : lim ≤ B) : (next lst lim s).2.In B := by
  unfold next
  split
  · exact h
  · exact after_in h hl
theorem readN_in {B lst lim k : Nat} {s : Rd} (h : s.In B) (hl : lim ≤ B) : (readN lst lim k s).2.In B := by
  induction k generalizing s with
  | zero => exact h
  | succ k ih =>
    rw [readN]
    split
    · exact h
    · split
      · exact next_in h hl
      · exact ih (next_in h hl)

/-! ### what is kept, and what it weighs -/
def Rd.Kept (lst : Nat) (s : Rd) : Prop := Tk.sum s.out ≤ lst ∧ (s.weight ≤ lst → Tk.sum s.out = s.weight)
theorem take_kept {lst : Nat} {f : Tk.Fd} {s : Rd} (h : s.Kept lst) : (take lst f s).Kept lst := by
  unfold take Rd.Kept
  simp only
  by_cases h1 : s.weight + Tk.wt f ≤ lst
  · rw [if_pos h1, Tk.sum_append, Tk.sum_cons, Tk.sum_nil]
    have := h.2 (by omega)
    exact ⟨by omega, fun _ => by omega⟩
  · rw [if_neg h1]
    exact ⟨h.1, fun h2 => absurd h2 h1⟩
theorem spelt_kept {lst n : Nat} {add : Bool} {s : Rd} (h : s.Kept lst) : (spelt lst n add s).2.Kept lst := by
  unfold spelt
  split
  · exact h
  · split
    · exact h
    · exact take_kept h
theorem after_kept {lst lim b n : Nat} {s : Rd} (h : s.Kept lst) : (after lst lim b n s).2.Kept lst := by
  unfold after
  split
  · split
    · exact h
    · exact h
  · split
    · exact h
    · split
      · split
        · exact take_kept h
        · exact h
      · exact spelt_kept h
theorem next_kept {lst lim : Nat} {s : Rd} (h : s.Kept lst) : (next lst lim s).2.Kept lst := by
  unfold next
  split
  · exact h
  · exact after_kept h
theorem readN_kept {lst lim k : Nat} {s : Rd} (h : s.Kept lst) : (readN lst lim k s).2.Kept lst := by
  induction k generalizing s with
  | zero => exact h
  | succ k ih =>
    rw [readN]
    split
    · exact h
    · split
      · exact next_kept h
      · exact ih (next_kept h)
theorem start_kept (lst : Nat) (l : List Tk.Fd) (m : Nat) (b : List Nat) : (start l m b).Kept lst := ⟨Nat.zero_le _, fun _ => rfl⟩
theorem answer_weight {lst : Nat} {r : Nat × Rd} (h : r.2.Kept lst) : Tk.sum (answer lst r).1 ≤ lst := by
  unfold answer
  split
  · exact Nat.zero_le _
  · split
    · exact Nat.zero_le _
    · exact h.1
theorem answer_none {lst : Nat} {r : Nat × Rd} (h : (answer lst r).2 ≠ 0) : (answer lst r).1 = [] := by
  unfold answer at h ⊢
  split
  · rfl
  · rename_i h1
    rw [if_neg h1] at h
    split
    · rfl
    · rename_i h2
      rw [if_neg h2] at h
      exact absurd rfl h

/-! ### the errors' numbers -/
theorem more_err (l : List Nat) (i u a : Nat) : (Pr.more l i u a).2.2 ≤ 41 := by
  induction l generalizing i u a with
  | nil => simp [Pr.more]
  | cons b l ih =>
    rw [Pr.more]
    split
    · simp
    · split
      · simp
      · exact ih _ _ _
theorem read_err (l : List Nat) (m : Nat) : (Pr.read l m).2.2 ≤ 41 := by
  unfold Pr.read
  split
  · simp
  · split
    · simp
    · exact more_err _ _ _ _
theorem dec_err (most : Nat) (bs out : List Nat) (n v e : Nat) (h : Hf.dec most bs out n v = .inr e) : e ≤ 41 := by
  induction bs generalizing out n v with
  | nil => simp [Hf.dec] at h
  | cons b bs ih =>
    rw [Hf.dec] at h
    split at h
    · exact ih _ _ _ h
    · split at h
      · injection h with h; omega
      · split at h
        · injection h with h; omega
        · exact ih _ _ _ h
theorem decode_err (l : List Nat) (m : Nat) : (Hf.decode l m).2 ≤ 41 := by
  unfold Hf.decode
  cases hd : Hf.dec m (Hf.bits l) [] 0 0 with
  | inr e => exact dec_err _ _ _ _ _ _ hd
  | inl t =>
    obtain ⟨o, n, v⟩ := t
    unfold Hf.fin
    simp only
    split <;> simp
theorem readStr_err (l : List Nat) (m : Nat) : (Pr.readStr l m).2.2 ≤ 41 := by
  unfold Pr.readStr
  simp only
  split
  · exact read_err _ _
  · generalize (if 128 ≤ l.getD 0 0 then ((Pr.read l 128).1 + 3) / 4 else (Pr.read l 128).1) = t
    split
    · simp
    · split
      · simp
      · split
        · split
          · exact decode_err _ _
          · simp
        · simp
theorem lit_err (rest : List Nat) : (lit rest).2.2 ≤ 41 := readStr_err _ _
theorem name_err (n : Nat) (l : List Tk.Fd) (rest : List Nat) : (name n l rest).2.2 ≤ 50 := by
  unfold name
  split
  · have := lit_err rest; omega
  · simp only
    split <;> omega
theorem spelt_err (lst n : Nat) (add : Bool) (s : Rd) : (spelt lst n add s).1 ≤ 50 := by
  unfold spelt
  split
  · exact name_err _ _ _
  · split
    · have := lit_err (name n s.l s.rest).2.1; simp only; omega
    · simp
theorem after_err (lst lim b n : Nat) (s : Rd) : (after lst lim b n s).1 ≤ 60 := by
  unfold after
  split
  · split <;> simp
  · split
    · simp
    · split
      · split <;> simp
      · have := spelt_err lst n (b == 6) s; omega
theorem next_err (lst lim : Nat) (s : Rd) : (next lst lim s).1 ≤ 60 := by
  unfold next
  split
  · have := read_err s.rest (2 ^ bits (s.rest.getD 0 0)); unfold num; simp only; omega
  · exact after_err _ _ _ _ _
theorem readN_err (lst lim k : Nat) (s : Rd) : (readN lst lim k s).1 ≤ 60 := by
  induction k generalizing s with
  | zero => simp [readN]
  | succ k ih =>
    rw [readN]
    split
    · simp
    · split
      · exact next_err _ _ _
      · exact ih _
end Go.Proofs.Ytmjibpjnhehnnaa.Hk
