/- The bytes of a block that is written; how long its parts are. No program in sight. -/
import Derived.Test.YtmjibpjnhehnnaaKc
namespace Go.Proofs.Ytmjibpjnhehnnaa

theorem kint_byte (h m n : Nat) (b : Nat) (hb : b ≤ 8) (hm : m = 2 ^ b) (hm2 : 2 ≤ m) (hh : h < 256) (hr : h % m = 0) : Hf.Byte (Pr.int h m n) := by
  have hlt2 : h + (m - 1) < 256 := by
    have : h / m * m + h % m = h := by rw [Nat.mul_comm]; exact Nat.div_add_mod h m
    have h3 : m ∣ 256 := by rw [hm]; exact Nat.pow_dvd_pow 2 hb
    obtain ⟨c, hc⟩ := h3
    have h4 : h / m < c := by
      rw [hc] at hh
      exact Nat.div_lt_of_lt_mul hh
    have h5 : (h / m + 1) * m ≤ c * m := Nat.mul_le_mul_right m h4
    rw [Nat.add_mul, Nat.one_mul, Nat.mul_comm c m, ← hc] at h5
    omega
  unfold Pr.int
  split
  · intro x hx; simp at hx; omega
  · intro x hx
    rcases List.mem_cons.1 hx with rfl | hx
    · exact hlt2
    · exact Pr.put_byte _ x hx
theorem kint_byte7 (h n : Nat) (hh : h = 0 ∨ h = 128) : Hf.Byte (Pr.int h 128 n) := kint_byte h 128 n 7 (by omega) rfl (by omega) (by omega) (by omega)
theorem kstr_byte (l : List Nat) (hl : Hf.Byte l) : Hf.Byte (Pr.str l) := by
  unfold Pr.str
  split
  · intro x hx
    rcases List.mem_append.1 hx with hx | hx
    · exact kint_byte7 _ _ (.inr rfl) x hx
    · exact Hf.enc_byte l x hx
  · intro x hx
    rcases List.mem_append.1 hx with hx | hx
    · exact kint_byte7 _ _ (.inl rfl) x hx
    · exact hl x hx
namespace Hk
theorem byte_append {a b : List Nat} (h1 : Hf.Byte a) (h2 : Hf.Byte b) : Hf.Byte (a ++ b) := by
  intro x hx
  rcases List.mem_append.1 hx with hx | hx
  · exact h1 x hx
  · exact h2 x hx
theorem texts_byte (i : Nat) (f : Tk.Fd) : Hf.Byte (texts i f) := by
  unfold texts
  refine byte_append ?_ (kstr_byte _ (nats_byte _))
  split
  · exact kstr_byte _ (nats_byte _)
  · intro x hx; cases hx
theorem one_byte (m : Nat) (l : List Tk.Fd) (f : Tk.Fd) : Hf.Byte (one m l f).1 := by
  unfold one
  split
  · exact byte_append (kint_byte 16 16 _ 4 (by omega) rfl (by omega) (by omega) (by omega)) (texts_byte _ _)
  · split
    · exact kint_byte 128 128 _ 7 (by omega) rfl (by omega) (by omega) (by omega)
    · split
      · exact byte_append (kint_byte 0 16 _ 4 (by omega) rfl (by omega) (by omega) (by omega)) (texts_byte _ _)
      · exact byte_append (kint_byte 64 64 _ 6 (by omega) rfl (by omega) (by omega) (by omega)) (texts_byte _ _)
theorem ones_byte (m : Nat) (fs l : List Tk.Fd) : Hf.Byte (ones m fs l).1 := by
  induction fs generalizing l with
  | nil => intro x hx; cases hx
  | cons f fs ih => exact byte_append (one_byte _ _ _) (ih _)
theorem head1_byte (n : Nat) : Hf.Byte (Pr.int 32 32 n) := kint_byte 32 32 n 5 (by omega) rfl (by omega) (by omega) (by omega)
theorem head_byte (m was least : Nat) : Hf.Byte (head m was least) := by
  unfold head
  refine byte_append ?_ ?_ <;> split <;> first | exact head1_byte _ | (intro x hx; cases hx)
theorem ones_append (m : Nat) (a b l : List Tk.Fd) : ones m (a ++ b) l = ((ones m a l).1 ++ (ones m b (ones m a l).2).1, (ones m b (ones m a l).2).2) := by
  induction a generalizing l with
  | nil => rfl
  | cons f a ih => simp only [List.cons_append, ones, ih, List.append_assoc]
theorem ones_take_len (m k : Nat) (fs l : List Tk.Fd) : (ones m (fs.take k) l).1.length ≤ (ones m fs l).1.length := by
  have := ones_append m (fs.take k) (fs.drop k) l
  rw [List.take_append_drop] at this
  rw [this, List.length_append]
  omega
theorem ones_take_succ (m k : Nat) (fs l : List Tk.Fd) (h : k < fs.length) : ones m (fs.take (k + 1)) l = ((ones m (fs.take k) l).1 ++ (one m (ones m (fs.take k) l).2 (fs.getD k Tk.nil)).1, (one m (ones m (fs.take k) l).2 (fs.getD k Tk.nil)).2) := by
  have e : fs.take (k + 1) = fs.take k ++ [fs.getD k Tk.nil] := by
    rw [List.take_succ_eq_append_getElem h, List.getD_eq_getElem?_getD, List.getElem?_eq_getElem h]
    rfl
  rw [e, ones_snoc]
/-- How long a block is. -/
def size (fs : List Tk.Fd) : Nat := (fs.map fun f => f.1.size + f.2.size + 16).sum
theorem one_len (m : Nat) (l : List Tk.Fd) (f : Tk.Fd) (hs : Tk.sum l ≤ m) (hm : m ≤ 65536) (hf : Short f) : (one m l f).1.length ≤ f.1.size + f.2.size + 16 := by
  have hi := find_small f hs hm
  have hI := fun h mm => Pr.int_len h mm (Tk.find f (Tk.all l) 0 0).1 (by omega)
  have e1 := Pr.str_len (nats f.1) (by rw [nats_length]; exact hf.1)
  have e2 := Pr.str_len (nats f.2) (by rw [nats_length]; exact hf.2)
  rw [nats_length] at e1 e2
  have ht : (texts (Tk.find f (Tk.all l) 0 0).1 f).length ≤ f.1.size + f.2.size + 10 := by
    unfold texts
    rw [List.length_append]
    split
    · omega
    · simp only [List.length_nil]; omega
  have h1 := hI 16 16
  have h2 := hI 128 128
  have h3 := hI 0 16
  have h4 := hI 64 64
  have hw : (one m l f).1 = Pr.int 16 16 (Tk.find f (Tk.all l) 0 0).1 ++ texts (Tk.find f (Tk.all l) 0 0).1 f ∨ (one m l f).1 = Pr.int 128 128 (Tk.find f (Tk.all l) 0 0).1 ∨ (one m l f).1 = Pr.int 0 16 (Tk.find f (Tk.all l) 0 0).1 ++ texts (Tk.find f (Tk.all l) 0 0).1 f ∨ (one m l f).1 = Pr.int 64 64 (Tk.find f (Tk.all l) 0 0).1 ++ texts (Tk.find f (Tk.all l) 0 0).1 f := by
    unfold one
    split
    · exact .inl rfl
    · split
      · exact .inr (.inl rfl)
      · split
        · exact .inr (.inr (.inl rfl))
        · exact .inr (.inr (.inr rfl))
  rcases hw with hw | hw | hw | hw <;> rw [hw] <;> (try rw [List.length_append]) <;> omega
theorem ones_len (m : Nat) (fs l : List Tk.Fd) (hs : Tk.sum l ≤ m) (hm : m ≤ 65536) (hf : ∀ f ∈ fs, Short f) : (ones m fs l).1.length ≤ size fs := by
  induction fs generalizing l with
  | nil => exact Nat.zero_le _
  | cons f fs ih =>
    have h1 := one_len m l f hs hm (hf f (List.mem_cons_self ..))
    have h2 := ih (one m l f).2 (one_sum f hs) (fun g hg => hf g (List.mem_cons_of_mem _ hg))
    simp only [ones, List.length_append, size, List.map_cons, List.sum_cons] at *
    omega
theorem head_len (m was least : Nat) (hm : m ≤ 65536) (hl : least ≤ 65536) : (head m was least).length ≤ 12 := by
  have h1 := Pr.int_len 32 32 least (by omega)
  have h2 := Pr.int_len 32 32 m (by omega)
  unfold head
  rw [List.length_append]
  split <;> split <;> (try simp only [List.length_nil]) <;> omega
end Hk
end Go.Proofs.Ytmjibpjnhehnnaa
