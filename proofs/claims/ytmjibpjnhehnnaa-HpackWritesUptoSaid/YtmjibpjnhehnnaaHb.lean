/- Coding and reading as functions on lists of bits; reading takes back what coding does. No program in sight. -/
import Derived.Test.YtmjibpjnhehnnaaHa
namespace Go.Proofs.Ytmjibpjnhehnnaa.Hf

/-! ### numbers and bits, the highest one first -/
/-- The number of bits. -/
def val (bs : List Nat) : Nat := bs.foldl (fun a b => 2 * a + b) 0
/-- The n low bits of v. -/
def bitsN : Nat → Nat → List Nat
  | 0, _ => []
  | n + 1, v => bitsN n (v / 2) ++ [v % 2]
theorem bitsN_length (n v : Nat) : (bitsN n v).length = n := by
  induction n generalizing v with
  | zero => rfl
  | succ n ih => simp [bitsN, ih]
theorem val_nil : val [] = 0 := rfl
theorem val_snoc (bs : List Nat) (b : Nat) : val (bs ++ [b]) = 2 * val bs + b := by simp [val, List.foldl_append]
theorem foldl_val (bs : List Nat) (a : Nat) : bs.foldl (fun a b => 2 * a + b) a = a * 2 ^ bs.length + val bs := by
  induction bs generalizing a with
  | nil => simp [val]
  | cons b bs ih =>
    simp only [List.foldl_cons, List.length_cons, val]
    rw [ih, ih (2 * 0 + b), Nat.pow_succ]
    have e : 2 * 0 + b = b := by omega
    rw [e, Nat.add_mul, Nat.mul_comm 2 a, Nat.mul_assoc, Nat.mul_comm 2 (2 ^ bs.length)]
    omega
theorem val_append (xs ys : List Nat) : val (xs ++ ys) = val xs * 2 ^ ys.length + val ys := by
  unfold val
  rw [List.foldl_append, foldl_val]
  rfl
def Bits (bs : List Nat) : Prop := ∀ b ∈ bs, b < 2
theorem Bits.nil : Bits [] := by intro b hb; cases hb
theorem Bits.append {xs ys : List Nat} (h : Bits xs) (k : Bits ys) : Bits (xs ++ ys) := by
  intro b hb
  rcases List.mem_append.1 hb with hb | hb
  · exact h b hb
  · exact k b hb
theorem Bits.one {b : Nat} (h : b < 2) : Bits [b] := by intro c hc; simp at hc; omega
theorem Bits.take {xs : List Nat} (h : Bits xs) (n : Nat) : Bits (xs.take n) := fun b hb => h b (List.mem_of_mem_take hb)
theorem Bits.drop {xs : List Nat} (h : Bits xs) (n : Nat) : Bits (xs.drop n) := fun b hb => h b (List.mem_of_mem_drop hb)
theorem Bits.ones (n : Nat) : Bits (List.replicate n 1) := by intro b hb; have := List.eq_of_mem_replicate hb; omega
theorem bitsN_bits (n v : Nat) : Bits (bitsN n v) := by
  induction n generalizing v with
  | zero => exact Bits.nil
  | succ n ih => exact (ih _).append (Bits.one (Nat.mod_lt _ (by omega)))
theorem snoc_induction {p : List Nat → Prop} (h0 : p []) (h1 : ∀ bs b, p bs → p (bs ++ [b])) (bs : List Nat) : p bs := by
  have h : ∀ l : List Nat, p l.reverse := by
    intro l
    induction l with
    | nil => exact h0
    | cons b l ih => rw [List.reverse_cons]; exact h1 _ b ih
  have := h bs.reverse
  rwa [List.reverse_reverse] at this
theorem val_lt {bs : List Nat} : Bits bs → val bs < 2 ^ bs.length := by
  refine snoc_induction (p := fun bs => Bits bs → val bs < 2 ^ bs.length) (fun _ => by simp [val]) (fun bs b ih h => ?_) bs
  · rw [val_snoc]
    have h1 := ih (fun c hc => h c (List.mem_append_left _ hc))
    have h2 := h b (by simp)
    simp only [List.length_append, List.length_cons, List.length_nil, Nat.zero_add, Nat.pow_succ]
    omega
theorem val_bitsN (n v : Nat) (h : v < 2 ^ n) : val (bitsN n v) = v := by
  induction n generalizing v with
  | zero => simp [bitsN, val] at *; omega
  | succ n ih =>
    rw [bitsN, val_snoc, ih (v / 2) (by rw [Nat.pow_succ] at h; omega)]
    omega
theorem bitsN_val {bs : List Nat} : Bits bs → bitsN bs.length (val bs) = bs := by
  refine snoc_induction (p := fun bs => Bits bs → bitsN bs.length (val bs) = bs) (fun _ => rfl) (fun bs b ih h => ?_) bs
  · have h1 := ih (fun c hc => h c (List.mem_append_left _ hc))
    have h2 := h b (by simp)
    simp only [List.length_append, List.length_cons, List.length_nil, Nat.zero_add]
    rw [bitsN, val_snoc, show (2 * val bs + b) / 2 = val bs from by omega, show (2 * val bs + b) % 2 = b from by omega, h1]
theorem bitsN_snoc (n v b : Nat) (hb : b < 2) : bitsN (n + 1) (2 * v + b) = bitsN n v ++ [b] := by
  rw [bitsN, show (2 * v + b) / 2 = v from by omega, show (2 * v + b) % 2 = b from by omega]
theorem val_ones (n : Nat) : val (List.replicate n 1) = 2 ^ n - 1 := by
  induction n with
  | zero => rfl
  | succ n ih =>
    rw [List.replicate_succ', val_snoc, ih, Nat.pow_succ]
    have := Nat.two_pow_pos n
    omega
theorem bitsN_ones (n : Nat) : bitsN n (2 ^ n - 1) = List.replicate n 1 := by
  have h := bitsN_val (Bits.ones n)
  rw [val_ones, List.length_replicate] at h
  exact h

/-! ### bytes -/
/-- The bits of bytes. -/
def bits (l : List Nat) : List Nat := l.flatMap (bitsN 8)
/-- The whole bytes of bits. -/
def pack (bs : List Nat) : List Nat :=
  if _h : bs.length < 8 then [] else val (bs.take 8) :: pack (bs.drop 8)
termination_by bs.length
decreasing_by simp; omega
/-- What is left behind the whole bytes. -/
def left (bs : List Nat) : List Nat := bs.drop (8 * (bs.length / 8))
theorem pack_short {bs : List Nat} (h : bs.length < 8) : pack bs = [] := by rw [pack, dif_pos h]
theorem pack_long {bs : List Nat} (h : 8 ≤ bs.length) : pack bs = val (bs.take 8) :: pack (bs.drop 8) := by rw [pack, dif_neg (by omega)]
theorem left_short {bs : List Nat} (h : bs.length < 8) : left bs = bs := by unfold left; rw [Nat.div_eq_of_lt h]; rfl
theorem left_long {bs : List Nat} (h : 8 ≤ bs.length) : left bs = left (bs.drop 8) := by
  unfold left
  rw [List.length_drop, List.drop_drop]
  congr 1
  omega
theorem left_length (bs : List Nat) : (left bs).length = bs.length % 8 := by unfold left; rw [List.length_drop]; omega
theorem left_lt (bs : List Nat) : (left bs).length < 8 := by rw [left_length]; exact Nat.mod_lt _ (by omega)
theorem pack_append8 (xs ys : List Nat) (h : xs.length = 8) : pack (xs ++ ys) = val xs :: pack ys := by
  rw [pack_long (by rw [List.length_append]; omega), List.take_left' h, List.drop_left' h]
theorem pack_append (xs ys : List Nat) : pack (xs ++ ys) = pack xs ++ pack (left xs ++ ys) ∧ left (xs ++ ys) = left (left xs ++ ys) := by
  induction hn : xs.length using Nat.strongRecOn generalizing xs with
  | _ n ih =>
    subst hn
    by_cases h : xs.length < 8
    · rw [pack_short h, left_short h]
      exact ⟨rfl, rfl⟩
    · have h8 : 8 ≤ xs.length := by omega
      obtain ⟨h1, h2⟩ := ih (xs.drop 8).length (by rw [List.length_drop]; omega) (xs.drop 8) rfl
      have hd : (xs ++ ys).drop 8 = xs.drop 8 ++ ys := by rw [List.drop_append_of_le_length h8]
      have ht : (xs ++ ys).take 8 = xs.take 8 := List.take_append_of_le_length h8
      have hl : 8 ≤ (xs ++ ys).length := by rw [List.length_append]; omega
      rw [pack_long hl, pack_long h8, left_long hl, left_long h8, hd, ht, h1, h2]
      exact ⟨rfl, rfl⟩
theorem pack_length (bs : List Nat) : (pack bs).length = bs.length / 8 := by
  induction hn : bs.length using Nat.strongRecOn generalizing bs with
  | _ n ih =>
    subst hn
    by_cases h : bs.length < 8
    · rw [pack_short h, Nat.div_eq_of_lt h]; rfl
    · rw [pack_long (by omega), List.length_cons, ih (bs.drop 8).length (by rw [List.length_drop]; omega) _ rfl, List.length_drop]
      omega
theorem pack_lt {bs : List Nat} (hb : Bits bs) : ∀ x ∈ pack bs, x < 256 := by
  induction hn : bs.length using Nat.strongRecOn generalizing bs with
  | _ n ih =>
    subst hn
    by_cases h : bs.length < 8
    · rw [pack_short h]; intro x hx; cases hx
    · rw [pack_long (by omega)]
      intro x hx
      rcases List.mem_cons.1 hx with rfl | hx
      · have := val_lt (hb.take 8)
        rw [List.length_take, Nat.min_eq_left (by omega)] at this
        exact this
      · exact ih (bs.drop 8).length (by rw [List.length_drop]; omega) (hb.drop 8) rfl x hx
theorem bits_cons (x : Nat) (l : List Nat) : bits (x :: l) = bitsN 8 x ++ bits l := rfl
theorem bits_append (l m : List Nat) : bits (l ++ m) = bits l ++ bits m := by simp [bits]
theorem bits_length (l : List Nat) : (bits l).length = 8 * l.length := by
  induction l with
  | nil => rfl
  | cons x l ih => rw [bits_cons, List.length_append, bitsN_length, ih, List.length_cons]; omega
theorem bits_bits (l : List Nat) : Bits (bits l) := by
  induction l with
  | nil => exact Bits.nil
  | cons x l ih => exact (bitsN_bits 8 x).append ih
/-- The whole bytes' bits and what is left are the bits. -/
theorem bits_pack {bs : List Nat} (hb : Bits bs) : bits (pack bs) ++ left bs = bs := by
  induction hn : bs.length using Nat.strongRecOn generalizing bs with
  | _ n ih =>
    subst hn
    by_cases h : bs.length < 8
    · rw [pack_short h, left_short h]; rfl
    · have h1 := ih (bs.drop 8).length (by rw [List.length_drop]; omega) (hb.drop 8) rfl
      have h2 := bitsN_val (hb.take 8)
      rw [List.length_take, Nat.min_eq_left (by omega)] at h2
      rw [pack_long (by omega), left_long (by omega), bits_cons, List.append_assoc, h1, h2, List.take_append_drop]
theorem pack_bits (l : List Nat) (hl : ∀ x ∈ l, x < 256) : pack (bits l) = l := by
  induction l with
  | nil => exact pack_short (by simp [bits])
  | cons x l ih =>
    rw [bits_cons, pack_append8 _ _ (bitsN_length 8 x), ih (fun y hy => hl y (List.mem_cons_of_mem _ hy)), val_bitsN 8 x (hl x (by simp))]

/-! ### coding -/
def codeBits (s : Nat) : List Nat := bitsN (len s) (code s)
def encBits (l : List Nat) : List Nat := l.flatMap codeBits
def pad (n : Nat) : Nat := (8 - n % 8) % 8
/-- The last byte is filled with ones. -/
def padded (bs : List Nat) : List Nat := bs ++ List.replicate (pad bs.length) 1
def enc (l : List Nat) : List Nat := pack (padded (encBits l))
def Byte (l : List Nat) : Prop := ∀ x ∈ l, x < 256
theorem codeBits_length (s : Nat) : (codeBits s).length = len s := bitsN_length _ _
theorem codeBits_bits (s : Nat) : Bits (codeBits s) := bitsN_bits _ _
theorem encBits_nil : encBits [] = [] := rfl
theorem encBits_cons (s : Nat) (l : List Nat) : encBits (s :: l) = codeBits s ++ encBits l := rfl
theorem encBits_append (l m : List Nat) : encBits (l ++ m) = encBits l ++ encBits m := by simp [encBits]
theorem encBits_bits (l : List Nat) : Bits (encBits l) := by
  induction l with
  | nil => exact Bits.nil
  | cons x l ih => exact (codeBits_bits x).append ih
theorem pad_lt (n : Nat) : pad n < 8 := Nat.mod_lt _ (by omega)
theorem pad_all (n : Nat) : (n + pad n) % 8 = 0 := by unfold pad; omega
theorem padded_length (bs : List Nat) : (padded bs).length = bs.length + pad bs.length := by simp [padded]
theorem padded_bits {bs : List Nat} (h : Bits bs) : Bits (padded bs) := h.append (Bits.ones _)
theorem enc_length (l : List Nat) : (enc l).length = ((encBits l).length + 7) / 8 := by
  rw [enc, pack_length, padded_length]
  unfold pad
  omega
theorem enc_byte (l : List Nat) : Byte (enc l) := pack_lt (padded_bits (encBits_bits l))
theorem bits_enc (l : List Nat) : bits (enc l) = padded (encBits l) := by
  have h := bits_pack (padded_bits (encBits_bits l))
  have hl : left (padded (encBits l)) = [] := by
    apply List.eq_nil_of_length_eq_zero
    rw [left_length, padded_length]
    exact pad_all _
  rw [hl, List.append_nil] at h
  exact h
theorem encBits_ge (l : List Nat) (h : Byte l) : 5 * l.length ≤ (encBits l).length := by
  induction l with
  | nil => simp [encBits]
  | cons x l ih =>
    have h1 := ih (fun y hy => h y (List.mem_cons_of_mem _ hy))
    have h2 := (len_bd x (by have := h x (by simp); omega)).1
    rw [encBits_cons, List.length_append, codeBits_length, List.length_cons]
    omega
theorem encBits_le (l : List Nat) (h : Byte l) : (encBits l).length ≤ 30 * l.length := by
  induction l with
  | nil => simp [encBits]
  | cons x l ih =>
    have h1 := ih (fun y hy => h y (List.mem_cons_of_mem _ hy))
    have h2 := (len_bd x (by have := h x (by simp); omega)).2
    rw [encBits_cons, List.length_append, codeBits_length, List.length_cons]
    omega
theorem encBits_sum (l : List Nat) : (encBits l).length = (l.map len).sum := by
  induction l with
  | nil => rfl
  | cons x l ih => rw [encBits_cons, List.length_append, codeBits_length, ih]; rfl
end Go.Proofs.Ytmjibpjnhehnnaa.Hf
