/- What an encoder writes a decoder reads as the same: the plain law. No program in sight. -/
import Derived.Test.YtmjibpjnhehnnaaKb
namespace Go.Proofs.Ytmjibpjnhehnnaa.Hk

theorem int_first (h mm n : Nat) (_hm : 1 ≤ mm) (z : List Nat) : (Pr.int h mm n ++ z).getD 0 0 = h + min n (mm - 1) := by
  unfold Pr.int
  split
  · simp only [List.cons_append, List.nil_append, List.getD_cons_zero]; omega
  · simp only [List.cons_append, List.getD_cons_zero]; omega
theorem int_ne (h mm n : Nat) (z : List Nat) : Pr.int h mm n ++ z ≠ [] := by
  unfold Pr.int
  split <;> simp
theorem readStr_most (l z : List Nat) (hb : Hf.Byte l) (hl : l.length < 268435456) (M : Nat) (hM : l.length ≤ M) : Pr.readStr (Pr.str l ++ z) M = (l, (Pr.str l).length, 0) := by
  unfold Pr.str
  split
  · rename_i h
    have hd := Hf.decode_enc l hb M
    rw [if_pos (.inr hM)] at hd
    rw [Pr.readStr_gen 128 (.inr rfl) _ z (by omega), hd, if_neg (by rw [if_pos rfl]; omega), if_pos rfl, if_neg (by simp), List.length_append]
  · rename_i h
    have h2 : ¬ (0 : Nat) = 128 := by omega
    rw [Pr.readStr_gen 0 (.inl rfl) _ z (by omega)]
    simp only [if_neg h2]
    rw [if_neg (by omega), List.length_append]
theorem lit_str (x : ByteArray) (z : List Nat) (hx : x.size < 268435456) : lit (Pr.str (nats x) ++ z) = (x, z, 0) := by
  unfold lit
  rw [readStr_most (nats x) z (nats_byte x) (by rw [nats_length]; exact hx) most (by rw [nats_length]; unfold most; omega)]
  simp only [strN_nats, List.drop_left]
/-- A field whose texts are short. -/
def Short (f : Tk.Fd) : Prop := f.1.size < 268435456 ∧ f.2.size < 268435456
theorem spelt_texts (lst : Nat) (add : Bool) (f : Tk.Fd) (hf : Short f) (l : List Tk.Fd) (m : Nat) (z : List Nat) (b : Bool) (wg : Nat) (out : List Tk.Fd) :
    spelt lst (Tk.find f (Tk.all l) 0 0).1 add ⟨l, m, texts (Tk.find f (Tk.all l) 0 0).1 f ++ z, b, wg, out⟩ = (0, take lst f ⟨if add then Tk.add m f l else l, m, z, b, wg, out⟩) := by
  have hn : name (Tk.find f (Tk.all l) 0 0).1 l (texts (Tk.find f (Tk.all l) 0 0).1 f ++ z) = (f.1, Pr.str (nats f.2) ++ z, 0) := by
    have hat := (find_at f (Tk.all l)).2
    generalize (Tk.find f (Tk.all l) 0 0).1 = i at *
    unfold name texts
    by_cases hi : i = 0
    · rw [if_pos hi, if_pos hi, List.append_assoc, lit_str _ _ hf.1]
    · rw [if_neg hi, if_neg hi, List.nil_append]
      obtain ⟨h1, h2⟩ := hat hi
      rw [h1, h2]
      rfl
  unfold spelt
  simp only [hn, lit_str _ _ hf.2]
  rfl
theorem next_at (lst lim h bs n : Nat) (l : List Tk.Fd) (m : Nat) (z : List Nat) (b : Bool) (wg : Nat) (out : List Tk.Fd) (hb : bits (h + min n (2 ^ bs - 1)) = bs) (hh : h % 2 ^ bs = 0) (h2 : 2 ≤ 2 ^ bs) (hn : n ≤ 2147483647) :
    next lst lim ⟨l, m, Pr.int h (2 ^ bs) n ++ z, b, wg, out⟩ = after lst lim bs n ⟨l, m, z, b, wg, out⟩ := by
  have hf := int_first h (2 ^ bs) n (by omega) z
  have hr := Pr.read_int h (2 ^ bs) n z h2 hh hn
  unfold next num behind
  simp only [hf, hb, hr, List.drop_left]
  rw [if_neg (by simp)]
theorem bits16 (h n : Nat) (hh : h = 16 ∨ h = 0) : bits (h + min n (2 ^ 4 - 1)) = 4 := by
  have e : (2 : Nat) ^ 4 = 16 := by decide
  unfold bits
  rw [e, if_neg (by omega), if_neg (by omega), if_neg (by omega)]
theorem bits128 (n : Nat) : bits (128 + min n (2 ^ 7 - 1)) = 7 := by unfold bits; rw [if_pos (by omega)]
theorem bits64 (n : Nat) : bits (64 + min n (2 ^ 6 - 1)) = 6 := by
  have e : (2 : Nat) ^ 6 = 64 := by decide
  unfold bits
  rw [e, if_neg (by omega), if_pos (by omega)]
theorem bits32 (n : Nat) : bits (32 + min n (2 ^ 5 - 1)) = 5 := by
  have e : (2 : Nat) ^ 5 = 32 := by decide
  unfold bits
  rw [e, if_neg (by omega), if_neg (by omega), if_pos (by omega)]
theorem find_small {m : Nat} {l : List Tk.Fd} (f : Tk.Fd) (h : Tk.sum l ≤ m) (hm : m ≤ 65536) : (Tk.find f (Tk.all l) 0 0).1 ≤ 61 + 2048 := by
  have h1 := find_le f (Tk.all l)
  have h2 := Tk.sum_ge l
  rw [Tk.all_length] at h1
  omega
/-- A field that is written is read as the same. -/
theorem next_one (lst lim m : Nat) (l : List Tk.Fd) (f : Tk.Fd) (z : List Nat) (b : Bool) (wg : Nat) (out : List Tk.Fd) (hf : Short f) (hs : Tk.sum l ≤ m) (hm : m ≤ 65536) (hl : m ≤ lim) :
    next lst lim ⟨l, m, (one m l f).1 ++ z, b, wg, out⟩ = (0, take lst f ⟨(one m l f).2, m, z, b, wg, out⟩) := by
  have hi := find_small f hs hm
  have hw := (find_at f (Tk.all l)).1
  have hlm : ¬ lim < m := by omega
  unfold one
  split
  · rw [List.append_assoc, next_at lst lim 16 4 _ l m _ b wg out (bits16 _ _ (.inl rfl)) (by decide) (by decide) (by omega)]
    unfold after
    rw [if_neg (by omega), if_neg hlm, if_neg (by omega)]
    exact spelt_texts lst false f hf l m z b wg out
  · split
    · rename_i h2
      have hw := hw h2
      rw [next_at lst lim 128 7 _ l m _ b wg out (bits128 _) (by decide) (by decide) (by omega)]
      unfold after
      rw [if_neg (by omega), if_neg hlm, if_pos rfl]
      simp only [hw, if_true]
    · split
      · rw [List.append_assoc, next_at lst lim 0 4 _ l m _ b wg out (bits16 _ _ (.inr rfl)) (by decide) (by decide) (by omega)]
        unfold after
        rw [if_neg (by omega), if_neg hlm, if_neg (by omega)]
        exact spelt_texts lst false f hf l m z b wg out
      · rw [List.append_assoc, next_at lst lim 64 6 _ l m _ b wg out (bits64 _) (by decide) (by decide) (by omega)]
        unfold after
        rw [if_neg (by omega), if_neg hlm, if_neg (by omega)]
        exact spelt_texts lst true f hf l m z b wg out
theorem one_ne (m : Nat) (l : List Tk.Fd) (f : Tk.Fd) (z : List Nat) : (one m l f).1 ++ z ≠ [] := by
  unfold one
  split
  · rw [List.append_assoc]; exact int_ne _ _ _ _
  · split
    · exact int_ne _ _ _ _
    · split
      · rw [List.append_assoc]; exact int_ne _ _ _ _
      · rw [List.append_assoc]; exact int_ne _ _ _ _
/-- Whatever is taken, one after the other. -/
def takes (lst : Nat) (fs : List Tk.Fd) (s : Rd) : Rd := fs.foldl (fun s f => take lst f s) s
theorem readN_ones (lst lim m : Nat) (fs : List Tk.Fd) (hf : ∀ f ∈ fs, Short f) (hm : m ≤ 65536) (hl : m ≤ lim) (l : List Tk.Fd) (hs : Tk.sum l ≤ m) (b : Bool) (wg : Nat) (out : List Tk.Fd) (k : Nat) (hk : (ones m fs l).1.length ≤ k) :
    ∃ b', readN lst lim k ⟨l, m, (ones m fs l).1, b, wg, out⟩ = (0, { takes lst fs ⟨l, m, [], b, wg, out⟩ with l := (ones m fs l).2, begun := b' }) := by
  induction fs generalizing l b wg out k with
  | nil => exact ⟨b, readN_nil _ _ _ _ rfl⟩
  | cons f fs ih =>
    have hn := next_one lst lim m l f (ones m fs (one m l f).2).1 b wg out (hf f (List.mem_cons_self ..)) hs hm hl
    simp only [ones] at hk ⊢
    rw [readN_step lst lim k _ (one_ne _ _ _ _) hk (by rw [hn]), hn]
    have hp : 0 < (one m l f).1.length := by
      have := one_ne m l f []
      rw [List.append_nil] at this
      exact List.length_pos_iff.2 this
    rw [List.length_append] at hk
    obtain ⟨b', h⟩ := ih (fun g hg => hf g (List.mem_cons_of_mem _ hg)) (one m l f).2 (one_sum f hs) true (wg + Tk.wt f) (if wg + Tk.wt f ≤ lst then out ++ [f] else out) (k - 1) (by omega)
    refine ⟨b', ?_⟩
    simp only [take]
    rw [h]
    congr 1
    have hkeep : ∀ (fs : List Tk.Fd) (a c : Rd), a.rest = c.rest → a.m = c.m → a.weight = c.weight → a.out = c.out → (takes lst fs a).rest = (takes lst fs c).rest ∧ (takes lst fs a).m = (takes lst fs c).m ∧ (takes lst fs a).weight = (takes lst fs c).weight ∧ (takes lst fs a).out = (takes lst fs c).out := by
      intro fs
      induction fs with
      | nil => intro a c h1 h2 h3 h4; exact ⟨h1, h2, h3, h4⟩
      | cons g gs ih => intro a c h1 h2 h3 h4; exact ih _ _ h1 h2 (by simp only [take, h3]) (by simp only [take, h3, h4])
    have := hkeep fs ⟨(one m l f).2, m, [], true, wg + Tk.wt f, if wg + Tk.wt f ≤ lst then out ++ [f] else out⟩ (take lst f ⟨l, m, [], b, wg, out⟩) rfl rfl rfl rfl
    obtain ⟨h1, h2, h3, h4⟩ := this
    show Rd.mk _ _ _ _ _ _ = Rd.mk _ _ _ _ _ _
    rw [h1, h2, h3, h4]
    rfl
theorem takes_out (lst : Nat) (fs : List Tk.Fd) (s : Rd) (hk : Tk.sum s.out = s.weight) : (takes lst fs s).weight = s.weight + Tk.sum fs ∧ (s.weight + Tk.sum fs ≤ lst → (takes lst fs s).out = s.out ++ fs) := by
  induction fs generalizing s with
  | nil => exact ⟨rfl, fun _ => by simp [takes]⟩
  | cons f fs ih =>
    rw [Tk.sum_cons]
    by_cases h : s.weight + Tk.wt f ≤ lst
    · have hs : take lst f s = { s with begun := true, weight := s.weight + Tk.wt f, out := s.out ++ [f] } := by unfold take; rw [if_pos h]
      obtain ⟨h1, h2⟩ := ih (take lst f s) (by rw [hs]; simp only [Tk.sum_append, Tk.sum_cons, Tk.sum_nil]; omega)
      have e : takes lst (f :: fs) s = takes lst fs (take lst f s) := rfl
      rw [e]
      rw [hs] at h1 h2 ⊢
      simp only at h1 h2
      refine ⟨by rw [h1]; omega, fun h3 => ?_⟩
      rw [h2 (by omega), List.append_assoc]
      rfl
    · have hw : ∀ (fs : List Tk.Fd) (s : Rd), (takes lst fs s).weight = s.weight + Tk.sum fs := by
        intro fs
        induction fs with
        | nil => intro s; rfl
        | cons g gs ih => intro s; rw [Tk.sum_cons]; show (takes lst gs (take lst g s)).weight = _; rw [ih]; simp only [take]; omega
      refine ⟨by rw [hw, Tk.sum_cons], fun h3 => by omega⟩
end Go.Proofs.Ytmjibpjnhehnnaa.Hk
