/- Texts as blocks write them: the plain law. No program in sight. -/
import Derived.Test.YtmjibpjnhehnnaaPa
namespace Go.Proofs.Ytmjibpjnhehnnaa.Pr
open Hf (Byte)

/-- A text of at most so many bytes: the text, how many bytes it had, an error's number. -/
def readStr (l : List Nat) (most : Nat) : List Nat × Nat × Nat :=
  let r := read l 128
  if r.2.2 ≠ 0 then ([], 0, r.2.2)
  else if most < (if 128 ≤ l.getD 0 0 then (r.1 + 3) / 4 else r.1) then ([], 0, 3)
  else if l.length - r.2.1 < r.1 then ([], 0, 40)
  else if 128 ≤ l.getD 0 0 then
    (if (Hf.decode ((l.drop r.2.1).take r.1) most).2 ≠ 0 then ([], 0, (Hf.decode ((l.drop r.2.1).take r.1) most).2) else ((Hf.decode ((l.drop r.2.1).take r.1) most).1, r.2.1 + r.1, 0))
  else ((l.drop r.2.1).take r.1, r.2.1 + r.1, 0)
/-- A text's bytes: coded just if that makes it shorter. -/
def str (l : List Nat) : List Nat := if (Hf.enc l).length < l.length then int 128 128 (Hf.enc l).length ++ Hf.enc l else int 0 128 l.length ++ l

theorem more_bound (l : List Nat) (i u a : Nat) (h : (more l i u a).2.2 = 0) : (more l i u a).1 ≤ 2147483647 ∧ (more l i u a).2.1 ≤ i + l.length ∧ i < (more l i u a).2.1 := by
  induction l generalizing i u a with
  | nil => simp [more] at h
  | cons b l ih =>
    simp only [more] at h ⊢
    split at h
    · simp at h
    · rename_i h1
      rw [if_neg h1]
      split at h
      · rename_i h2
        rw [if_pos h2]
        simp only [List.length_cons]
        omega
      · rename_i h2
        rw [if_neg h2]
        have := ih _ _ _ h
        simp only [List.length_cons]
        omega
theorem read_bound (l : List Nat) (m : Nat) (hm : m ≤ 256) (h : (read l m).2.2 = 0) : (read l m).1 ≤ 2147483647 ∧ (read l m).2.1 ≤ l.length ∧ 1 ≤ (read l m).2.1 := by
  cases l with
  | nil => simp [read] at h
  | cons b l =>
    simp only [read] at h ⊢
    split at h
    · rename_i h1
      rw [if_pos h1]
      simp only [List.length_cons]
      omega
    · rename_i h1
      rw [if_neg h1]
      have := more_bound l 1 1 (b % m) h
      simp only [List.length_cons]
      omega
end Go.Proofs.Ytmjibpjnhehnnaa.Pr
