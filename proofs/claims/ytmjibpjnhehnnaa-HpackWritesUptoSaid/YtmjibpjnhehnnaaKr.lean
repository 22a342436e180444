/- What an encoder writes a decoder reads as the same, block by block, with limits between; the examples. No program in sight. -/
import Derived.Test.YtmjibpjnhehnnaaKo
import Derived.Test.YtmjibpjnhehnnaaKj
namespace Go.Proofs.Ytmjibpjnhehnnaa.Hk

/-- An update is read. -/
theorem next_upd (lst lim n m : Nat) (l : List Tk.Fd) (z : List Nat) (wg : Nat) (out : List Tk.Fd) (hn : n ≤ lim) (h2 : n ≤ 2147483647) :
    next lst lim ⟨l, m, Pr.int 32 32 n ++ z, false, wg, out⟩ = (0, ⟨Tk.shr n l, n, z, false, wg, out⟩) := by
  rw [next_at lst lim 32 5 n l m z false wg out (bits32 _) (by decide) (by decide) h2]
  unfold after
  rw [if_pos rfl, if_neg (by simp; omega)]
theorem readN_upd (lst lim n m k : Nat) (l : List Tk.Fd) (z : List Nat) (wg : Nat) (out : List Tk.Fd) (hn : n ≤ lim) (h2 : n ≤ 2147483647) (hk : (Pr.int 32 32 n ++ z).length ≤ k) :
    ∃ k', z.length ≤ k' ∧ readN lst lim k ⟨l, m, Pr.int 32 32 n ++ z, false, wg, out⟩ = readN lst lim k' ⟨Tk.shr n l, n, z, false, wg, out⟩ := by
  have hn1 := next_upd lst lim n m l z wg out hn h2
  have hl := Pr.int_len 32 32 n h2
  rw [List.length_append] at hk
  refine ⟨k - 1, by omega, ?_⟩
  rw [readN_step lst lim k _ (int_ne _ _ _ _) (by rw [List.length_append]; exact hk) (by rw [hn1]), hn1]
/-- The updates ahead of a block bring the decoder's table to the encoder's. -/
theorem readN_head (lst x m k : Nat) (l : List Tk.Fd) (z : List Nat) (hs : Tk.sum l ≤ m) (hm : m ≤ 65536) (hx : x ≤ 65536) (hk : (head x m (min m x) ++ z).length ≤ k) :
    ∃ k', z.length ≤ k' ∧ readN lst x k ⟨l, m, head x m (min m x) ++ z, false, 0, []⟩ = readN lst x k' ⟨Tk.shr x l, x, z, false, 0, []⟩ := by
  rcases Nat.lt_trichotomy x m with h | h | h
  · have hh : head x m (min m x) = Pr.int 32 32 x := by
      unfold head
      rw [if_neg (by omega), if_pos (.inr (by omega)), List.nil_append]
    rw [hh] at hk ⊢
    exact readN_upd lst x x m k l z 0 [] (Nat.le_refl _) (by omega) hk
  · subst h
    have hh : head x x (min x x) = [] := by
      unfold head
      rw [if_neg (by omega), if_neg (by omega), List.nil_append]
    rw [hh] at hk ⊢
    rw [Tk.shr_le hs]
    exact ⟨k, hk, rfl⟩
  · have hh : head x m (min m x) = Pr.int 32 32 m ++ Pr.int 32 32 x := by
      unfold head
      rw [if_pos (by omega), if_pos (.inl (by omega)), Nat.min_eq_left (by omega)]
    rw [hh, List.append_assoc] at hk ⊢
    obtain ⟨k1, hk1, h1⟩ := readN_upd lst x m m k l (Pr.int 32 32 x ++ z) 0 [] (by omega) (by omega) hk
    obtain ⟨k2, hk2, h2⟩ := readN_upd lst x x m k1 (Tk.shr m l) z 0 [] (Nat.le_refl _) (by omega) hk1
    rw [Tk.shr_le hs] at h1 h2
    exact ⟨k2, hk2, h1.trans h2⟩
/-- A block that is written is read as the same. -/
theorem dec_block (lst x m : Nat) (l fs : List Tk.Fd) (hs : Tk.sum l ≤ m) (hm : m ≤ 65536) (hx : x ≤ 65536) (hf : ∀ f ∈ fs, Short f) :
    dec lst x 0 m l (write x m (min m x) fs (Tk.shr x l)).1 = (if Tk.sum fs ≤ lst then fs else [], if Tk.sum fs ≤ lst then 0 else 61, 0, (write x m (min m x) fs (Tk.shr x l)).2, x) := by
  unfold dec
  rw [if_neg (by simp)]
  have hr : ∃ b', run lst x l m (write x m (min m x) fs (Tk.shr x l)).1 = (0, { takes lst fs ⟨Tk.shr x l, x, [], false, 0, []⟩ with l := (ones x fs (Tk.shr x l)).2, begun := b' }) := by
    unfold run start write
    simp only
    obtain ⟨k1, hk1, h1⟩ := readN_head lst x m _ l (ones x fs (Tk.shr x l)).1 hs hm hx (Nat.le_refl _)
    rw [h1]
    exact readN_ones lst x x fs hf hx (Nat.le_refl _) (Tk.shr x l) (Tk.shr_sum x l) false 0 [] k1 hk1
  obtain ⟨b', hr⟩ := hr
  rw [hr]
  obtain ⟨ho1, ho2⟩ := takes_out lst fs ⟨Tk.shr x l, x, [], false, 0, []⟩ rfl
  have hmm : ∀ (fs : List Tk.Fd) (s : Rd), (takes lst fs s).m = s.m := by
    intro fs
    induction fs with
    | nil => intro s; rfl
    | cons f fs ih => intro s; exact ih (take lst f s)
  simp only [Nat.zero_add] at ho1 ho2
  unfold answer write
  simp only [ho1, hmm]
  by_cases h : Tk.sum fs ≤ lst
  · rw [if_pos h, if_pos h, if_neg (by simp), if_neg (by omega), ho2 h]
    rfl
  · rw [if_neg h, if_neg h, if_neg (by simp), if_pos (by omega)]

/-! ### the examples -/
def ax : Tk.Fd := (⟨#[58, 97, 117, 116, 104, 111, 114, 105, 116, 121]⟩, ⟨#[119, 119, 119, 46, 101, 120, 97, 109, 112, 108, 101, 46, 99, 111, 109]⟩)
def al : List Tk.Fd := [(⟨#[58, 109, 101, 116, 104, 111, 100]⟩, ⟨#[71, 69, 84]⟩), (⟨#[58, 115, 99, 104, 101, 109, 101]⟩, ⟨#[104, 116, 116, 112]⟩), (⟨#[58, 112, 97, 116, 104]⟩, ⟨#[47]⟩), ax]
def ab : List Nat := [130, 134, 132, 65, 140, 241, 227, 194, 229, 242, 58, 107, 160, 171, 144, 244, 255]
theorem a1 : one 4096 [] (⟨#[58, 109, 101, 116, 104, 111, 100]⟩, ⟨#[71, 69, 84]⟩) = ([130], []) := by decide +kernel
theorem a2 : one 4096 [] (⟨#[58, 115, 99, 104, 101, 109, 101]⟩, ⟨#[104, 116, 116, 112]⟩) = ([134], []) := by decide +kernel
theorem a3 : one 4096 [] (⟨#[58, 112, 97, 116, 104]⟩, ⟨#[47]⟩) = ([132], []) := by decide +kernel
theorem a4f : Tk.find ax (Tk.all []) 0 0 = (1, false) := by decide +kernel
theorem a4b : Pr.int 64 64 1 ++ texts 1 ax = [65, 140, 241, 227, 194, 229, 242, 58, 107, 160, 171, 144, 244, 255] := by decide +kernel
theorem a4 : one 4096 [] ax = ([65, 140, 241, 227, 194, 229, 242, 58, 107, 160, 171, 144, 244, 255], [ax]) := by
  have h1 : ¬ Lib.containsS secrets ax.1 = true := by decide +kernel
  have h2 : ¬ (Lib.containsS rares ax.1 = true ∨ 4096 < Tk.wt ax) := by decide +kernel
  have h3 : Tk.add 4096 ax [] = [ax] := by
    unfold Tk.add
    rw [if_pos (by decide), Tk.shr_le (by decide)]
  unfold one
  rw [if_neg h1, if_neg (by rw [a4f]; decide), if_neg h2, h3, a4f, a4b]
theorem awr : write 4096 4096 4096 al [] = (ab, [ax]) := by
  unfold write al
  simp only [ones, a1, a2, a3, a4]
  decide +kernel
theorem ard : dec 1000 4096 0 4096 [] ab = (al, 0, 0, [ax], 4096) := by
  have h := dec_block 1000 4096 4096 [] al (Nat.zero_le _) (by omega) (by omega) (by
    intro f hf
    have : ∀ f ∈ al, f.1.size < 268435456 ∧ f.2.size < 268435456 := by decide +kernel
    exact this f hf)
  rw [Tk.shr_le (Nat.zero_le _), show min 4096 4096 = 4096 from rfl, awr, if_pos (by decide +kernel), if_pos (by decide +kernel)] at h
  exact h
theorem ard2 : dec 1000 4096 0 4096 [ax] [128] = ([], 50, 50, [ax], 4096) := by decide +kernel
theorem ard3 : dec 1000 4096 50 4096 [ax] [130] = ([], 50, 50, [ax], 4096) := by decide +kernel
end Go.Proofs.Ytmjibpjnhehnnaa.Hk
