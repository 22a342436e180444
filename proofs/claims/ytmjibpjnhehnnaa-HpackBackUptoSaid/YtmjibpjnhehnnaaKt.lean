/- A block that is written again is the same from then on, and hardly longer: the plain law. No program in sight. -/
import Derived.Test.YtmjibpjnhehnnaaKo
namespace Go.Proofs.Ytmjibpjnhehnnaa.Hk

/-- Fields that leave the table as it is. -/
def Cov (l : List Tk.Fd) (f : Tk.Fd) : Prop := Lib.containsS secrets f.1 = true ∨ f ∈ Tk.all l ∨ Lib.containsS rares f.1 = true
theorem find_whole (f : Tk.Fd) (l : List Tk.Fd) : (Tk.find f l 0 0).2 = true ↔ f ∈ l := by
  rcases find_spec f l 0 0 with ⟨h1, k, hk, _⟩ | ⟨h1, h2, _⟩
  · exact ⟨fun _ => List.mem_of_getElem? hk, fun _ => h1⟩
  · rw [h1]
    exact ⟨fun h => (by cases h), fun h => absurd h h2⟩
theorem find_pos {f : Tk.Fd} {l : List Tk.Fd} {g : Tk.Fd} (hg : g ∈ l) (hn : g.1 = f.1) : (Tk.find f l 0 0).1 ≠ 0 := by
  rcases find_spec f l 0 0 with ⟨_, k, _, he⟩ | ⟨_, _, ⟨_, h4⟩ | ⟨_, k, _, _, _, he⟩⟩
  · omega
  · exact absurd hn (h4 rfl g hg)
  · omega
theorem find_named {f : Tk.Fd} {l : List Tk.Fd} (h : (Tk.find f l 0 0).1 ≠ 0) : ∃ g ∈ l, g.1 = f.1 := by
  rcases find_spec f l 0 0 with ⟨_, k, hk, _⟩ | ⟨_, _, ⟨he, _⟩ | ⟨_, k, g, hk, hg, _⟩⟩
  · exact ⟨f, List.mem_of_getElem? hk, rfl⟩
  · exact absurd he h
  · exact ⟨g, List.mem_of_getElem? hk, hg⟩
theorem all_sub {a b : List Tk.Fd} (h : ∀ x ∈ a, x ∈ b) : ∀ x ∈ Tk.all a, x ∈ Tk.all b := by
  intro x hx
  rcases List.mem_append.1 hx with hx | hx
  · exact List.mem_append.2 (.inl hx)
  · exact List.mem_append.2 (.inr (h x hx))
theorem int_one (h n : Nat) (hn : n ≤ 123) : (Pr.int h 128 n).length = 1 := by
  unfold Pr.int
  rw [if_pos (by omega)]
  rfl
theorem int_two (h n : Nat) (hn : n ≤ 123) : 1 ≤ (Pr.int h 16 n).length ∧ (Pr.int h 16 n).length ≤ 2 ∧ (n = 0 → (Pr.int h 16 n).length = 1) := by
  unfold Pr.int
  by_cases h1 : n < 15
  · rw [if_pos h1]
    exact ⟨Nat.le_refl _, by simp, fun _ => rfl⟩
  · rw [if_neg h1, Pr.put_short (by omega)]
    exact ⟨by simp, by simp, fun h => by omega⟩
theorem int_ge (h m n : Nat) : 1 ≤ (Pr.int h m n).length := by
  unfold Pr.int
  split <;> simp
theorem str_pos (f : Tk.Fd) : 1 ≤ (Pr.str (nats f.1)).length ∧ 1 ≤ (Pr.str (nats f.2)).length := by
  have h : ∀ l : List Nat, 1 ≤ (Pr.str l).length := by
    intro l
    unfold Pr.str
    split
    · rw [List.length_append]; have := int_ge 128 128 (Hf.enc l).length; omega
    · rw [List.length_append]; have := int_ge 0 128 l.length; omega
  exact ⟨h _, h _⟩
theorem one_pos (m : Nat) (l : List Tk.Fd) (f : Tk.Fd) : 1 ≤ (one m l f).1.length := by
  have := one_ne m l f []
  rw [List.append_nil] at this
  exact List.length_pos_iff.2 this
/-- A field is laid in without another going. -/
theorem add_fits {m : Nat} {f : Tk.Fd} {l : List Tk.Fd} (h : Tk.wt f + Tk.sum l ≤ m) : Tk.add m f l = f :: l := by
  unfold Tk.add
  rw [if_pos (by omega), Tk.shr_le (by omega)]
theorem one_table (m : Nat) (l : List Tk.Fd) (f : Tk.Fd) (h : Tk.wt f + Tk.sum l ≤ m) : ((one m l f).2 = l ∧ Cov l f) ∨ (one m l f).2 = f :: l := by
  unfold one
  by_cases h1 : Lib.containsS secrets f.1 = true
  · rw [if_pos h1]; exact .inl ⟨rfl, .inl h1⟩
  · rw [if_neg h1]
    by_cases h2 : (Tk.find f (Tk.all l) 0 0).2 = true
    · rw [if_pos h2]; exact .inl ⟨rfl, .inr (.inl ((find_whole f _).1 h2))⟩
    · rw [if_neg h2]
      by_cases h3 : Lib.containsS rares f.1 = true
      · rw [if_pos (.inl h3)]; exact .inl ⟨rfl, .inr (.inr h3)⟩
      · rw [if_neg (fun h => h.elim h3 (by omega))]
        exact .inr (add_fits h)
theorem Cov.mono {a b : List Tk.Fd} {f : Tk.Fd} (h : ∀ x ∈ a, x ∈ b) (hc : Cov a f) : Cov b f := by
  rcases hc with hc | hc | hc
  · exact .inl hc
  · exact .inr (.inl (all_sub h f hc))
  · exact .inr (.inr hc)
/-- The first time. -/
theorem pass1 (m : Nat) (fs l : List Tk.Fd) (h : Tk.sum l + Tk.sum fs ≤ m) : Tk.sum (ones m fs l).2 ≤ Tk.sum l + Tk.sum fs ∧ (∀ x ∈ l, x ∈ (ones m fs l).2) ∧ ∀ f ∈ fs, Cov (ones m fs l).2 f := by
  induction fs generalizing l with
  | nil => exact ⟨Nat.le_refl _, fun x hx => hx, fun f hf => by cases hf⟩
  | cons f fs ih =>
    rw [Tk.sum_cons] at h ⊢
    simp only [ones]
    rcases one_table m l f (by omega) with ⟨h1, h2⟩ | h1
    · rw [h1]
      obtain ⟨a1, a2, a3⟩ := ih l (by omega)
      refine ⟨by omega, a2, fun g hg => ?_⟩
      rcases List.mem_cons.1 hg with rfl | hg
      · exact h2.mono a2
      · exact a3 g hg
    · rw [h1]
      obtain ⟨a1, a2, a3⟩ := ih (f :: l) (by rw [Tk.sum_cons]; omega)
      rw [Tk.sum_cons] at a1
      refine ⟨by omega, fun x hx => a2 x (List.mem_cons_of_mem _ hx), fun g hg => ?_⟩
      rcases List.mem_cons.1 hg with rfl | hg
      · exact .inr (.inl (List.mem_append.2 (.inr (a2 _ (List.mem_cons_self ..)))))
      · exact a3 g hg
/-- A field, the second time. -/
theorem less_one (m : Nat) (li l1 : List Tk.Fd) (f : Tk.Fd) (hsub : ∀ x ∈ li, x ∈ l1) (hcov : Cov l1 f) (hl : l1.length ≤ 62) (hli : li.length ≤ 62) : (one m l1 f).1.length ≤ (one m li f).1.length + 1 ∧ (one m l1 f).2 = l1 := by
  have hi1 := find_le f (Tk.all l1)
  have hi2 := find_le f (Tk.all li)
  rw [Tk.all_length] at hi1 hi2
  have hn := str_pos f
  have htexts : ∀ h : Nat, (Pr.int h 16 (Tk.find f (Tk.all l1) 0 0).1 ++ texts (Tk.find f (Tk.all l1) 0 0).1 f).length ≤ (Pr.int h 16 (Tk.find f (Tk.all li) 0 0).1 ++ texts (Tk.find f (Tk.all li) 0 0).1 f).length + 1 := by
    intro h
    obtain ⟨a1, a2, a3⟩ := int_two h (Tk.find f (Tk.all l1) 0 0).1 (by omega)
    obtain ⟨b1, b2, b3⟩ := int_two h (Tk.find f (Tk.all li) 0 0).1 (by omega)
    rw [List.length_append, List.length_append]
    unfold texts
    rw [List.length_append, List.length_append]
    by_cases c1 : (Tk.find f (Tk.all li) 0 0).1 = 0
    · rw [if_pos c1]
      by_cases c2 : (Tk.find f (Tk.all l1) 0 0).1 = 0
      · rw [if_pos c2]
        have := a3 c2
        omega
      · rw [if_neg c2]
        simp only [List.length_nil]
        omega
    · obtain ⟨g, hg, hgn⟩ := find_named c1
      have c2 := find_pos (all_sub hsub g hg) hgn
      rw [if_neg c1, if_neg c2]
      simp only [List.length_nil]
      omega
  have h16 := htexts 16
  have h0 := htexts 0
  unfold one
  by_cases h1 : Lib.containsS secrets f.1 = true
  · rw [if_pos h1, if_pos h1]
    exact ⟨h16, rfl⟩
  · rw [if_neg h1, if_neg h1]
    by_cases h2 : (Tk.find f (Tk.all l1) 0 0).2 = true
    · rw [if_pos h2]
      refine ⟨?_, rfl⟩
      have e1 := int_one 128 (Tk.find f (Tk.all l1) 0 0).1 (by omega)
      simp only
      rw [e1]
      omega
    · rw [if_neg h2]
      have h3 : Lib.containsS rares f.1 = true := by
        rcases hcov with h | h | h
        · exact absurd h h1
        · exact absurd ((find_whole f _).2 h) h2
        · exact h
      have h4 : ¬ (Tk.find f (Tk.all li) 0 0).2 = true := fun h => h2 ((find_whole f _).2 (all_sub hsub f ((find_whole f _).1 h)))
      rw [if_pos (.inl h3), if_neg h4, if_pos (.inl h3)]
      exact ⟨h0, rfl⟩
/-- All of them, the second time. -/
theorem pass2 (m : Nat) (fs li l1 : List Tk.Fd) (hs : Tk.sum li + Tk.sum fs ≤ m) (h2000 : Tk.sum li + Tk.sum fs ≤ 2000) (hsub : ∀ x ∈ (ones m fs li).2, x ∈ l1) (hcov : ∀ f ∈ fs, Cov l1 f) (hl : l1.length ≤ 62) (hsh : ∀ f ∈ fs, Short f) :
    (ones m fs l1).1.length ≤ (ones m fs li).1.length + fs.length ∧ (ones m fs l1).2 = l1 := by
  induction fs generalizing li with
  | nil => exact ⟨Nat.le_refl _, rfl⟩
  | cons f fs ih =>
    rw [Tk.sum_cons] at hs h2000
    have hp := pass1 m (f :: fs) li (by rw [Tk.sum_cons]; omega)
    have hli := Tk.sum_ge li
    obtain ⟨a1, a2⟩ := less_one m li l1 f (fun x hx => hsub x (hp.2.1 x hx)) (hcov f (List.mem_cons_self ..)) hl (by omega)
    simp only [ones] at hsub ⊢
    have hsum : Tk.sum (one m li f).2 ≤ Tk.sum li + Tk.wt f := by
      rcases one_table m li f (by omega) with ⟨h1, _⟩ | h1
      · rw [h1]; omega
      · rw [h1, Tk.sum_cons]; omega
    obtain ⟨b1, b2⟩ := ih (one m li f).2 (by omega) (by omega) hsub (fun g hg => hcov g (List.mem_cons_of_mem _ hg)) (fun g hg => hsh g (List.mem_cons_of_mem _ hg))
    rw [a2, List.length_append, List.length_append, List.length_cons]
    exact ⟨by omega, b2⟩
/-- A block that is written again. -/
theorem write_again (fs : List Tk.Fd) (h : Tk.sum fs ≤ 2000) (hsh : ∀ f ∈ fs, Short f) :
    (write 4096 4096 4096 fs (write 4096 4096 4096 fs []).2).1.length ≤ (write 4096 4096 4096 fs []).1.length + fs.length ∧ (write 4096 4096 4096 fs (write 4096 4096 4096 fs []).2).2 = (write 4096 4096 4096 fs []).2 := by
  have hp := pass1 4096 fs [] (by rw [Tk.sum_nil]; omega)
  rw [Tk.sum_nil, Nat.zero_add] at hp
  have hg := Tk.sum_ge (ones 4096 fs []).2
  obtain ⟨h1, h2⟩ := pass2 4096 fs [] (ones 4096 fs []).2 (by rw [Tk.sum_nil]; omega) (by rw [Tk.sum_nil]; omega) (fun x hx => hx) hp.2.2 (by omega) hsh
  unfold write
  simp only [List.length_append]
  exact ⟨by omega, h2⟩
end Go.Proofs.Ytmjibpjnhehnnaa.Hk
