/- Blocks of fields as plain functions: how they are written. No program in sight. -/
import Derived.Test.YtmjibpjnhehnnaaKa
import Derived.Lib.SlicesS
namespace Go.Proofs.Ytmjibpjnhehnnaa.Hk

/-- The names whose fields are never laid in: those that are secret, those that are rare. -/
def secrets : List ByteArray := [⟨#[97, 117, 116, 104, 111, 114, 105, 122, 97, 116, 105, 111, 110]⟩, ⟨#[99, 111, 111, 107, 105, 101]⟩, ⟨#[112, 114, 111, 120, 121, 45, 97, 117, 116, 104, 111, 114, 105, 122, 97, 116, 105, 111, 110]⟩, ⟨#[115, 101, 116, 45, 99, 111, 111, 107, 105, 101]⟩]
def rares : List ByteArray := [⟨#[58, 112, 97, 116, 104]⟩, ⟨#[99, 111, 110, 116, 101, 110, 116, 45, 108, 101, 110, 103, 116, 104]⟩, ⟨#[99, 111, 110, 116, 101, 110, 116, 45, 114, 97, 110, 103, 101]⟩, ⟨#[100, 97, 116, 101]⟩, ⟨#[101, 116, 97, 103]⟩, ⟨#[108, 97, 115, 116, 45, 109, 111, 100, 105, 102, 105, 101, 100]⟩, ⟨#[108, 111, 99, 97, 116, 105, 111, 110]⟩]
/-- The texts behind a field's number. -/
def texts (i : Nat) (f : Tk.Fd) : List Nat := (if i = 0 then Pr.str (nats f.1) else []) ++ Pr.str (nats f.2)
/-- A field: its bytes, the table behind it. -/
def one (m : Nat) (l : List Tk.Fd) (f : Tk.Fd) : List Nat × List Tk.Fd :=
  if Lib.containsS secrets f.1 = true then (Pr.int 16 16 (Tk.find f (Tk.all l) 0 0).1 ++ texts (Tk.find f (Tk.all l) 0 0).1 f, l)
  else if (Tk.find f (Tk.all l) 0 0).2 then (Pr.int 128 128 (Tk.find f (Tk.all l) 0 0).1, l)
  else if Lib.containsS rares f.1 = true ∨ m < Tk.wt f then (Pr.int 0 16 (Tk.find f (Tk.all l) 0 0).1 ++ texts (Tk.find f (Tk.all l) 0 0).1 f, l)
  else (Pr.int 64 64 (Tk.find f (Tk.all l) 0 0).1 ++ texts (Tk.find f (Tk.all l) 0 0).1 f, Tk.add m f l)
/-- Fields in order. -/
def ones (m : Nat) : List Tk.Fd → List Tk.Fd → List Nat × List Tk.Fd
  | [], l => ([], l)
  | f :: fs, l => ((one m l f).1 ++ (ones m fs (one m l f).2).1, (ones m fs (one m l f).2).2)
/-- The updates ahead of them. -/
def head (m was least : Nat) : List Nat := (if least < m then Pr.int 32 32 least else []) ++ (if least < m ∨ m ≠ was then Pr.int 32 32 m else [])
def write (m was least : Nat) (fs l : List Tk.Fd) : List Nat × List Tk.Fd := (head m was least ++ (ones m fs l).1, (ones m fs l).2)

theorem ones_snoc (m : Nat) (fs : List Tk.Fd) (f : Tk.Fd) (l : List Tk.Fd) : ones m (fs ++ [f]) l = ((ones m fs l).1 ++ (one m (ones m fs l).2 f).1, (one m (ones m fs l).2 f).2) := by
  induction fs generalizing l with
  | nil => simp [ones]
  | cons g fs ih => simp only [List.cons_append, ones, ih, List.append_assoc]
theorem one_sum {m : Nat} {l : List Tk.Fd} (f : Tk.Fd) (h : Tk.sum l ≤ m) : Tk.sum (one m l f).2 ≤ m := by
  unfold one
  split
  · exact h
  · split
    · exact h
    · split
      · exact h
      · exact Tk.add_sum _ _ _
theorem ones_sum {m : Nat} (fs : List Tk.Fd) {l : List Tk.Fd} (h : Tk.sum l ≤ m) : Tk.sum (ones m fs l).2 ≤ m := by
  induction fs generalizing l with
  | nil => exact h
  | cons f fs ih => exact ih (one_sum f h)

/-! ### where a field stands -/
theorem find_spec (f : Tk.Fd) (l : List Tk.Fd) (i named : Nat) :
    ((Tk.find f l i named).2 = true ∧ ∃ k, l[k]? = some f ∧ (Tk.find f l i named).1 = i + k + 1) ∨
    ((Tk.find f l i named).2 = false ∧ f ∉ l ∧ (((Tk.find f l i named).1 = named ∧ (named = 0 → ∀ g ∈ l, g.1 ≠ f.1)) ∨ (named = 0 ∧ ∃ k g, l[k]? = some g ∧ g.1 = f.1 ∧ (Tk.find f l i named).1 = i + k + 1))) := by
  induction l generalizing i named with
  | nil => exact .inr ⟨rfl, by simp, .inl ⟨rfl, fun _ g hg => by cases hg⟩⟩
  | cons g l ih =>
    rw [Tk.find]
    by_cases h : g = f
    · rw [if_pos h]
      exact .inl ⟨rfl, 0, by rw [h]; rfl, rfl⟩
    · rw [if_neg h]
      rcases ih (i + 1) (if named = 0 ∧ g.1 = f.1 then i + 1 else named) with ⟨h1, k, hk, he⟩ | ⟨h1, hn, h2⟩
      · exact .inl ⟨h1, k + 1, hk, by rw [he]; omega⟩
      · refine .inr ⟨h1, ?_, ?_⟩
        · intro hm
          rcases List.mem_cons.1 hm with e | e
          · exact h e.symm
          · exact hn e
        · by_cases hc : named = 0 ∧ g.1 = f.1
          · rw [if_pos hc] at h2 ⊢
            rcases h2 with ⟨h3, _⟩ | ⟨h3, _⟩
            · exact .inr ⟨hc.1, 0, g, rfl, hc.2, by rw [h3]⟩
            · omega
          · rw [if_neg hc] at h2 ⊢
            rcases h2 with ⟨h3, h4⟩ | ⟨h3, k, g', hk, hg, he⟩
            · refine .inl ⟨h3, fun h0 x hx => ?_⟩
              rcases List.mem_cons.1 hx with e | e
              · subst e; exact fun e => hc ⟨h0, e⟩
              · exact h4 h0 x e
            · exact .inr ⟨h3, k + 1, g', hk, hg, by rw [he]; omega⟩
theorem find_le (f : Tk.Fd) (l : List Tk.Fd) : (Tk.find f l 0 0).1 ≤ l.length := by
  rcases find_spec f l 0 0 with ⟨_, k, hk, he⟩ | ⟨_, _, h | ⟨_, k, g, hk, _, he⟩⟩
  · have := (List.getElem?_eq_some_iff.1 hk).1; omega
  · rw [h.1]; exact Nat.zero_le _
  · have := (List.getElem?_eq_some_iff.1 hk).1; omega
theorem at_of {l : List Tk.Fd} {k : Nat} {f : Tk.Fd} (h : l[k]? = some f) : Tk.at_ l ((k + 1 : Nat) : Int) = (f, true) := by
  have hk := (List.getElem?_eq_some_iff.1 h).1
  unfold Tk.at_
  rw [if_pos (by omega), show (((k + 1 : Nat) : Int) - 1).toNat = k from by omega, List.getD_eq_getElem?_getD, h]
  rfl
/-- What is found whole stands at its index; what is found by name has that name. -/
theorem find_at (f : Tk.Fd) (l : List Tk.Fd) : ((Tk.find f l 0 0).2 = true → Tk.at_ l ((Tk.find f l 0 0).1 : Nat) = (f, true)) ∧ ((Tk.find f l 0 0).1 ≠ 0 → (Tk.at_ l ((Tk.find f l 0 0).1 : Nat)).2 = true ∧ (Tk.at_ l ((Tk.find f l 0 0).1 : Nat)).1.1 = f.1) := by
  rcases find_spec f l 0 0 with ⟨h1, k, hk, he⟩ | ⟨h1, _, ⟨he, _⟩ | ⟨_, k, g, hk, hg, he⟩⟩
  · rw [he, Nat.zero_add, at_of hk]
    exact ⟨fun _ => rfl, fun _ => ⟨rfl, rfl⟩⟩
  · exact ⟨(fun h => by rw [h1] at h; cases h), fun h => absurd he h⟩
  · refine ⟨(fun h => by rw [h1] at h; cases h), fun _ => ?_⟩
    rw [he, Nat.zero_add, at_of hk]
    exact ⟨rfl, hg⟩
end Go.Proofs.Ytmjibpjnhehnnaa.Hk
