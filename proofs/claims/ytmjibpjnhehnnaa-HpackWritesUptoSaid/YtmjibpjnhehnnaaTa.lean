/- Tables of fields as plain data: what they weigh, what stays when one is laid in, where a field stands. No program in sight. -/
namespace Go.Proofs.Ytmjibpjnhehnnaa.Tk

abbrev Fd := ByteArray × ByteArray
def nil : Fd := (⟨#[]⟩, ⟨#[]⟩)
/-- The static fields. -/
def statics : List Fd := [
  (⟨#[58, 97, 117, 116, 104, 111, 114, 105, 116, 121]⟩, ⟨#[]⟩),
  (⟨#[58, 109, 101, 116, 104, 111, 100]⟩, ⟨#[71, 69, 84]⟩),
  (⟨#[58, 109, 101, 116, 104, 111, 100]⟩, ⟨#[80, 79, 83, 84]⟩),
  (⟨#[58, 112, 97, 116, 104]⟩, ⟨#[47]⟩),
  (⟨#[58, 112, 97, 116, 104]⟩, ⟨#[47, 105, 110, 100, 101, 120, 46, 104, 116, 109, 108]⟩),
  (⟨#[58, 115, 99, 104, 101, 109, 101]⟩, ⟨#[104, 116, 116, 112]⟩),
  (⟨#[58, 115, 99, 104, 101, 109, 101]⟩, ⟨#[104, 116, 116, 112, 115]⟩),
  (⟨#[58, 115, 116, 97, 116, 117, 115]⟩, ⟨#[50, 48, 48]⟩),
  (⟨#[58, 115, 116, 97, 116, 117, 115]⟩, ⟨#[50, 48, 52]⟩),
  (⟨#[58, 115, 116, 97, 116, 117, 115]⟩, ⟨#[50, 48, 54]⟩),
  (⟨#[58, 115, 116, 97, 116, 117, 115]⟩, ⟨#[51, 48, 52]⟩),
  (⟨#[58, 115, 116, 97, 116, 117, 115]⟩, ⟨#[52, 48, 48]⟩),
  (⟨#[58, 115, 116, 97, 116, 117, 115]⟩, ⟨#[52, 48, 52]⟩),
  (⟨#[58, 115, 116, 97, 116, 117, 115]⟩, ⟨#[53, 48, 48]⟩),
  (⟨#[97, 99, 99, 101, 112, 116, 45, 99, 104, 97, 114, 115, 101, 116]⟩, ⟨#[]⟩),
  (⟨#[97, 99, 99, 101, 112, 116, 45, 101, 110, 99, 111, 100, 105, 110, 103]⟩, ⟨#[103, 122, 105, 112, 44, 32, 100, 101, 102, 108, 97, 116, 101]⟩),
  (⟨#[97, 99, 99, 101, 112, 116, 45, 108, 97, 110, 103, 117, 97, 103, 101]⟩, ⟨#[]⟩),
  (⟨#[97, 99, 99, 101, 112, 116, 45, 114, 97, 110, 103, 101, 115]⟩, ⟨#[]⟩),
  (⟨#[97, 99, 99, 101, 112, 116]⟩, ⟨#[]⟩),
  (⟨#[97, 99, 99, 101, 115, 115, 45, 99, 111, 110, 116, 114, 111, 108, 45, 97, 108, 108, 111, 119, 45, 111, 114, 105, 103, 105, 110]⟩, ⟨#[]⟩),
  (⟨#[97, 103, 101]⟩, ⟨#[]⟩),
  (⟨#[97, 108, 108, 111, 119]⟩, ⟨#[]⟩),
  (⟨#[97, 117, 116, 104, 111, 114, 105, 122, 97, 116, 105, 111, 110]⟩, ⟨#[]⟩),
  (⟨#[99, 97, 99, 104, 101, 45, 99, 111, 110, 116, 114, 111, 108]⟩, ⟨#[]⟩),
  (⟨#[99, 111, 110, 116, 101, 110, 116, 45, 100, 105, 115, 112, 111, 115, 105, 116, 105, 111, 110]⟩, ⟨#[]⟩),
  (⟨#[99, 111, 110, 116, 101, 110, 116, 45, 101, 110, 99, 111, 100, 105, 110, 103]⟩, ⟨#[]⟩),
  (⟨#[99, 111, 110, 116, 101, 110, 116, 45, 108, 97, 110, 103, 117, 97, 103, 101]⟩, ⟨#[]⟩),
  (⟨#[99, 111, 110, 116, 101, 110, 116, 45, 108, 101, 110, 103, 116, 104]⟩, ⟨#[]⟩),
  (⟨#[99, 111, 110, 116, 101, 110, 116, 45, 108, 111, 99, 97, 116, 105, 111, 110]⟩, ⟨#[]⟩),
  (⟨#[99, 111, 110, 116, 101, 110, 116, 45, 114, 97, 110, 103, 101]⟩, ⟨#[]⟩),
  (⟨#[99, 111, 110, 116, 101, 110, 116, 45, 116, 121, 112, 101]⟩, ⟨#[]⟩),
  (⟨#[99, 111, 111, 107, 105, 101]⟩, ⟨#[]⟩),
  (⟨#[100, 97, 116, 101]⟩, ⟨#[]⟩),
  (⟨#[101, 116, 97, 103]⟩, ⟨#[]⟩),
  (⟨#[101, 120, 112, 101, 99, 116]⟩, ⟨#[]⟩),
  (⟨#[101, 120, 112, 105, 114, 101, 115]⟩, ⟨#[]⟩),
  (⟨#[102, 114, 111, 109]⟩, ⟨#[]⟩),
  (⟨#[104, 111, 115, 116]⟩, ⟨#[]⟩),
  (⟨#[105, 102, 45, 109, 97, 116, 99, 104]⟩, ⟨#[]⟩),
  (⟨#[105, 102, 45, 109, 111, 100, 105, 102, 105, 101, 100, 45, 115, 105, 110, 99, 101]⟩, ⟨#[]⟩),
  (⟨#[105, 102, 45, 110, 111, 110, 101, 45, 109, 97, 116, 99, 104]⟩, ⟨#[]⟩),
  (⟨#[105, 102, 45, 114, 97, 110, 103, 101]⟩, ⟨#[]⟩),
  (⟨#[105, 102, 45, 117, 110, 109, 111, 100, 105, 102, 105, 101, 100, 45, 115, 105, 110, 99, 101]⟩, ⟨#[]⟩),
  (⟨#[108, 97, 115, 116, 45, 109, 111, 100, 105, 102, 105, 101, 100]⟩, ⟨#[]⟩),
  (⟨#[108, 105, 110, 107]⟩, ⟨#[]⟩),
  (⟨#[108, 111, 99, 97, 116, 105, 111, 110]⟩, ⟨#[]⟩),
  (⟨#[109, 97, 120, 45, 102, 111, 114, 119, 97, 114, 100, 115]⟩, ⟨#[]⟩),
  (⟨#[112, 114, 111, 120, 121, 45, 97, 117, 116, 104, 101, 110, 116, 105, 99, 97, 116, 101]⟩, ⟨#[]⟩),
  (⟨#[112, 114, 111, 120, 121, 45, 97, 117, 116, 104, 111, 114, 105, 122, 97, 116, 105, 111, 110]⟩, ⟨#[]⟩),
  (⟨#[114, 97, 110, 103, 101]⟩, ⟨#[]⟩),
  (⟨#[114, 101, 102, 101, 114, 101, 114]⟩, ⟨#[]⟩),
  (⟨#[114, 101, 102, 114, 101, 115, 104]⟩, ⟨#[]⟩),
  (⟨#[114, 101, 116, 114, 121, 45, 97, 102, 116, 101, 114]⟩, ⟨#[]⟩),
  (⟨#[115, 101, 114, 118, 101, 114]⟩, ⟨#[]⟩),
  (⟨#[115, 101, 116, 45, 99, 111, 111, 107, 105, 101]⟩, ⟨#[]⟩),
  (⟨#[115, 116, 114, 105, 99, 116, 45, 116, 114, 97, 110, 115, 112, 111, 114, 116, 45, 115, 101, 99, 117, 114, 105, 116, 121]⟩, ⟨#[]⟩),
  (⟨#[116, 114, 97, 110, 115, 102, 101, 114, 45, 101, 110, 99, 111, 100, 105, 110, 103]⟩, ⟨#[]⟩),
  (⟨#[117, 115, 101, 114, 45, 97, 103, 101, 110, 116]⟩, ⟨#[]⟩),
  (⟨#[118, 97, 114, 121]⟩, ⟨#[]⟩),
  (⟨#[118, 105, 97]⟩, ⟨#[]⟩),
  (⟨#[119, 119, 119, 45, 97, 117, 116, 104, 101, 110, 116, 105, 99, 97, 116, 101]⟩, ⟨#[]⟩)]
theorem statics_length : statics.length = 61 := by decide +kernel
def wt (f : Fd) : Nat := 32 + f.1.size + f.2.size
def sum (l : List Fd) : Nat := (l.map wt).sum
theorem sum_nil : sum [] = 0 := rfl
theorem sum_cons (f : Fd) (l : List Fd) : sum (f :: l) = wt f + sum l := by simp [sum]
theorem sum_append (l m : List Fd) : sum (l ++ m) = sum l + sum m := by simp [sum]
theorem sum_ge (l : List Fd) : 32 * l.length ≤ sum l := by
  induction l with
  | nil => simp [sum]
  | cons f l ih => rw [sum_cons, List.length_cons]; unfold wt; omega
theorem sum_mem {l : List Fd} {f : Fd} (h : f ∈ l) : wt f ≤ sum l := by
  induction l with
  | nil => cases h
  | cons g l ih =>
    rw [sum_cons]
    rcases List.mem_cons.1 h with rfl | h
    · omega
    · have := ih h; omega
theorem sum_dropLast (l : List Fd) (h : l ≠ []) : sum l = sum l.dropLast + wt (l.getLast h) := by
  conv => lhs; rw [← List.dropLast_concat_getLast h]
  rw [sum_append, sum_cons, sum_nil, Nat.add_zero]
/-- Old fields go, until so much is left. -/
def shr (m : Nat) (l : List Fd) : List Fd := if _h : sum l ≤ m then l else shr m l.dropLast
termination_by l.length
decreasing_by
  have : l ≠ [] := by intro e; subst e; exact _h (Nat.zero_le _)
  rw [List.length_dropLast]
  have := List.length_pos_iff.2 this
  omega
theorem shr_le {m : Nat} {l : List Fd} (h : sum l ≤ m) : shr m l = l := by rw [shr, dif_pos h]
theorem shr_gt {m : Nat} {l : List Fd} (h : ¬ sum l ≤ m) : shr m l = shr m l.dropLast := by rw [shr, dif_neg h]
theorem shr_prop (m : Nat) (l : List Fd) : sum (shr m l) ≤ m ∧ ∃ k, shr m l = l.take k := by
  induction hn : l.length using Nat.strongRecOn generalizing l with
  | _ n ih =>
    subst hn
    by_cases h : sum l ≤ m
    · rw [shr_le h]
      exact ⟨h, l.length, (List.take_length).symm⟩
    · have hne : l ≠ [] := by intro e; subst e; exact h (Nat.zero_le _)
      have hp := List.length_pos_iff.2 hne
      rw [shr_gt h]
      obtain ⟨h1, k, h2⟩ := ih l.dropLast.length (by rw [List.length_dropLast]; omega) l.dropLast rfl
      exact ⟨h1, min k (l.length - 1), by rw [h2, List.dropLast_eq_take, List.take_take]⟩
theorem shr_sum (m : Nat) (l : List Fd) : sum (shr m l) ≤ m := (shr_prop m l).1
theorem shr_sub (m : Nat) (l : List Fd) : ∀ f ∈ shr m l, f ∈ l := by
  obtain ⟨k, hk⟩ := (shr_prop m l).2
  intro f hf
  rw [hk] at hf
  exact List.mem_of_mem_take hf
theorem shr_zero (l : List Fd) : shr 0 l = [] := by
  have h1 := shr_sum 0 l
  have h2 := sum_ge (shr 0 l)
  exact List.eq_nil_of_length_eq_zero (by omega)
/-- A field is laid in. -/
def add (m : Nat) (f : Fd) (l : List Fd) : List Fd := if wt f ≤ m then f :: shr (m - wt f) l else []
theorem add_sum (m : Nat) (f : Fd) (l : List Fd) : sum (add m f l) ≤ m := by
  unfold add
  split
  · have := shr_sum (m - wt f) l
    rw [sum_cons]
    omega
  · exact Nat.zero_le _
theorem add_sub (m : Nat) (f : Fd) (l : List Fd) : ∀ g ∈ add m f l, g = f ∨ g ∈ l := by
  unfold add
  split
  · intro g hg
    rcases List.mem_cons.1 hg with h | h
    · exact .inl h
    · exact .inr (shr_sub _ _ g h)
  · intro g hg; cases hg
/-- Where a field stands: from place i on, with the first place of its name so far. -/
def find (f : Fd) : List Fd → Nat → Nat → Nat × Bool
  | [], _, named => (named, false)
  | g :: l, i, named => if g = f then (i + 1, true) else find f l (i + 1) (if named = 0 ∧ g.1 = f.1 then i + 1 else named)
def at_ (l : List Fd) (i : Int) : Fd × Bool := if 1 ≤ i ∧ i ≤ l.length then (l.getD (i - 1).toNat nil, true) else (nil, false)
def all (l : List Fd) : List Fd := statics ++ l
theorem all_length (l : List Fd) : (all l).length = 61 + l.length := by rw [all, List.length_append, statics_length]
theorem all_static (l : List Fd) (k : Nat) (h : k < 61) : (all l).getD k nil = statics.getD k nil := by
  rw [all, List.getD_eq_getElem?_getD, List.getD_eq_getElem?_getD, List.getElem?_append_left (by rw [statics_length]; exact h)]
theorem all_dyn (l : List Fd) (k : Nat) : (all l).getD (61 + k) nil = l.getD k nil := by
  rw [all, List.getD_eq_getElem?_getD, List.getD_eq_getElem?_getD, List.getElem?_append_right (by rw [statics_length]; omega), statics_length, Nat.add_sub_cancel_left]
/-- One step of the search. -/
theorem find_step (f : Fd) (l : List Fd) (i named : Nat) (h : i < l.length) : find f (l.drop i) i named = if l.getD i nil = f then (i + 1, true) else find f (l.drop (i + 1)) (i + 1) (if named = 0 ∧ (l.getD i nil).1 = f.1 then i + 1 else named) := by
  rw [List.drop_eq_getElem_cons h, find, List.getD_eq_getElem?_getD, List.getElem?_eq_getElem h]
  rfl
theorem find_end (f : Fd) (l : List Fd) (i named : Nat) (h : l.length ≤ i) : find f (l.drop i) i named = (named, false) := by
  rw [List.drop_of_length_le h]; rfl
theorem wt_static : ∀ f ∈ statics, wt f ≤ 100 := by decide +kernel
end Go.Proofs.Ytmjibpjnhehnnaa.Tk
