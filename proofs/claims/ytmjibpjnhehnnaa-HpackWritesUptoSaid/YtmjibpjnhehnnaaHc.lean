/- Reading bits: what it answers of coded texts, of torn ones, of joined ones. No program in sight. -/
import Derived.Test.YtmjibpjnhehnnaaHb
namespace Go.Proofs.Ytmjibpjnhehnnaa.Hf

/-- The symbols of bits: what has been read, and the bits since then (how many, their number). Right: an error's number. -/
def dec (most : Nat) : List Nat → List Nat → Nat → Nat → (List Nat × Nat × Nat) ⊕ Nat
  | [], out, n, v => .inl (out, n, v)
  | b :: bs, out, n, v => match sym (n + 1) (2 * v + b) with
    | none => dec most bs out (n + 1) (2 * v + b)
    | some s => if s = 256 then .inr 31 else if most ≤ out.length then .inr 3 else dec most bs (out ++ [s]) 0 0
/-- The end: a padding. -/
def fin : (List Nat × Nat × Nat) ⊕ Nat → List Nat × Nat
  | .inr e => ([], e)
  | .inl (out, n, v) => if 7 < n ∨ v ≠ 2 ^ n - 1 then ([], 30) else (out, 0)
def decode (l : List Nat) (most : Nat) : List Nat × Nat := fin (dec most (bits l) [] 0 0)

theorem dec_append (most : Nat) (xs ys out : List Nat) (n v : Nat) : dec most (xs ++ ys) out n v = match dec most xs out n v with
    | .inr e => .inr e
    | .inl (o, n', v') => dec most ys o n' v' := by
  induction xs generalizing out n v with
  | nil => rfl
  | cons b xs ih =>
    simp only [List.cons_append, dec]
    cases sym (n + 1) (2 * v + b) with
    | none => exact ih _ _ _
    | some s =>
      simp only
      split
      · rfl
      · split
        · rfl
        · exact ih _ _ _
theorem bitsN_cons (m v : Nat) : bitsN (m + 1) v = (v / 2 ^ m % 2) :: bitsN m v := by
  induction m generalizing v with
  | zero => simp [bitsN]
  | succ m ih =>
    rw [bitsN, ih (v / 2), bitsN, Nat.div_div_eq_div_mul, ← Nat.pow_succ']
    rfl
theorem dec_code (most : Nat) (s : Nat) (hs : s < 257) (ys out : List Nat) (m : Nat) (h1 : 1 ≤ m) (h2 : m ≤ len s) :
    dec most (bitsN m (code s) ++ ys) out (len s - m) (code s / 2 ^ m) = if s = 256 then .inr 31 else if most ≤ out.length then .inr 3 else dec most ys (out ++ [s]) 0 0 := by
  induction m with
  | zero => omega
  | succ m ih =>
    have e1 : 2 * (code s / 2 ^ (m + 1)) + code s / 2 ^ m % 2 = code s / 2 ^ m := by
      rw [Nat.pow_succ, ← Nat.div_div_eq_div_mul]
      omega
    have e2 : len s - (m + 1) + 1 = len s - m := by omega
    rw [bitsN_cons, List.cons_append, dec, e1, e2]
    by_cases h0 : m = 0
    · subst h0
      rw [Nat.sub_zero, Nat.pow_zero, Nat.div_one, met s hs]
      rfl
    · have hw := way s hs (len s - m) (by omega)
      rw [show len s - (len s - m) = m from by omega] at hw
      rw [hw]
      exact ih (by omega) (by omega)
theorem dec_one (most : Nat) (s : Nat) (hs : s < 257) (ys out : List Nat) :
    dec most (codeBits s ++ ys) out 0 0 = if s = 256 then .inr 31 else if most ≤ out.length then .inr 3 else dec most ys (out ++ [s]) 0 0 := by
  have h := dec_code most s hs ys out (len s) (by have := (len_bd s hs).1; omega) (Nat.le_refl _)
  rw [Nat.sub_self, Nat.div_eq_of_lt (code_lt s hs)] at h
  exact h
theorem dec_enc (most : Nat) (l : List Nat) (hl : Byte l) (ys out : List Nat) :
    dec most (encBits l ++ ys) out 0 0 = if l.length = 0 ∨ out.length + l.length ≤ most then dec most ys (out ++ l) 0 0 else .inr 3 := by
  induction l generalizing out with
  | nil => simp [encBits]
  | cons s l ih =>
    have hs := hl s (by simp)
    rw [encBits_cons, List.append_assoc, dec_one most s (by omega), if_neg (by omega)]
    by_cases h : most ≤ out.length
    · rw [if_pos h, if_neg (by simp; omega)]
    · rw [if_neg h, ih (fun y hy => hl y (List.mem_cons_of_mem _ hy))]
      by_cases h2 : l.length = 0
      · rw [if_pos (.inl h2), if_pos (by simp; omega)]
        simp
      · by_cases h3 : (out ++ [s]).length + l.length ≤ most
        · rw [if_pos (.inr h3), if_pos (by simp at h3 ⊢; omega)]
          simp
        · rw [if_neg (by rintro (h4 | h4); exact h2 h4; exact h3 h4), if_neg (by simp at h3 ⊢; omega)]
theorem dec_ones (most : Nat) (out : List Nat) (p q : Nat) (h : p + q < 30) : dec most (List.replicate q 1) out p (2 ^ p - 1) = .inl (out, p + q, 2 ^ (p + q) - 1) := by
  induction q generalizing p with
  | zero => rfl
  | succ q ih =>
    have e : 2 * (2 ^ p - 1) + 1 = 2 ^ (p + 1) - 1 := by
      have := Nat.two_pow_pos p
      rw [Nat.pow_succ]
      omega
    rw [List.replicate_succ, dec, e, ones (p + 1) (by omega)]
    simp only
    rw [ih (p + 1) (by omega), show p + 1 + q = p + (q + 1) from by omega]

/-! ### what holds of the bits since the last symbol -/
structure Inv (n v : Nat) : Prop where
  lo : fst n + cnt n ≤ v
  hi : v < 2 ^ n
  short : n < 30
theorem Inv.zero : Inv 0 0 := ⟨by decide, by decide, by decide⟩
theorem Inv.first {n v b : Nat} (h : Inv n v) : fst (n + 1) ≤ 2 * v + b := by
  have := fst_succ n h.short
  have := h.lo
  omega
theorem Inv.next {n v b : Nat} (h : Inv n v) (hb : b < 2) (hn : sym (n + 1) (2 * v + b) = none) : Inv (n + 1) (2 * v + b) := by
  have h1 := h.first (b := b)
  unfold sym at hn
  rw [if_pos h1] at hn
  have h2 : cnt (n + 1) ≤ 2 * v + b - fst (n + 1) := by
    unfold cnt
    exact List.getElem?_eq_none_iff.1 hn
  have h3 : 2 * v + b < 2 ^ (n + 1) := by have := h.hi; rw [Nat.pow_succ]; omega
  refine ⟨by omega, h3, ?_⟩
  rcases Nat.lt_or_ge (n + 1) 30 with h4 | h4
  · exact h4
  · have h5 : n + 1 = 30 := by have := h.short; omega
    have h6 := full
    rw [h5] at h1 h2 h3
    omega
theorem sym_some {n v s : Nat} (hn : n < 31) (h : sym n v = some s) : s < 257 ∧ len s = n ∧ code s = v := by
  unfold sym at h
  split at h
  · rename_i hle
    have hk : v - fst n < cnt n := (List.getElem?_eq_some_iff.1 h).1
    have hm : s ∈ hav n := List.mem_of_getElem? h
    have h2 := sym_some_all n hn (v - fst n) hk
    rw [show (hav n).getD (v - fst n) 0 = s from by rw [List.getD_eq_getElem?_getD, h]; rfl] at h2
    exact ⟨hav_lt n hn s hm, h2.1, by omega⟩
  · cases h
theorem Inv.some {n v b s : Nat} (h : Inv n v) (hs : sym (n + 1) (2 * v + b) = some s) : s < 257 ∧ len s = n + 1 ∧ code s = 2 * v + b := sym_some (by have := h.short; omega) hs

theorem dec_inl (most : Nat) (bs : List Nat) (hb : Bits bs) (out : List Nat) (n v : Nat) (h : Inv n v) (out' : List Nat) (n' v' : Nat) (hd : dec most bs out n v = .inl (out', n', v')) :
    Inv n' v' ∧ ∃ t, Byte t ∧ out' = out ++ t ∧ bitsN n v ++ bs = encBits t ++ bitsN n' v' ∧ (t = [] → n' = n + bs.length) := by
  induction bs generalizing out n v with
  | nil =>
    injection hd with hd
    injection hd with h1 h2
    injection h2 with h2 h3
    subst h1; subst h2; subst h3
    exact ⟨h, [], fun x hx => (by cases hx), by simp, by simp [encBits], fun _ => rfl⟩
  | cons b bs ih =>
    have hb2 : b < 2 := hb b (by simp)
    have hbs : Bits bs := fun c hc => hb c (List.mem_cons_of_mem _ hc)
    rw [dec] at hd
    cases hs : sym (n + 1) (2 * v + b) with
    | none =>
      rw [hs] at hd
      obtain ⟨h1, t, h2, h3, h4, h5⟩ := ih hbs out (n + 1) (2 * v + b) (h.next hb2 hs) hd
      refine ⟨h1, t, h2, h3, ?_, fun he => by rw [h5 he, List.length_cons]; omega⟩
      rw [← h4, bitsN_snoc n v b hb2, List.append_assoc]
      rfl
    | some s =>
      rw [hs] at hd
      obtain ⟨g1, g2, g3⟩ := h.some hs
      simp only at hd
      split at hd
      · cases hd
      · rename_i hne
        split at hd
        · cases hd
        · obtain ⟨h1, t, h2, h3, h4, _⟩ := ih hbs (out ++ [s]) 0 0 Inv.zero hd
          refine ⟨h1, s :: t, ?_, by rw [h3, List.append_assoc]; rfl, ?_, fun he => by cases he⟩
          · intro x hx
            rcases List.mem_cons.1 hx with rfl | hx
            · omega
            · exact h2 x hx
          · have e : bitsN n v ++ b :: bs = codeBits s ++ bs := by
              unfold codeBits
              rw [g2, g3, bitsN_snoc n v b hb2, List.append_assoc]
              rfl
            rw [e, encBits_cons, List.append_assoc, ← h4]
            rfl
theorem dec_inr (most : Nat) (bs : List Nat) (hb : Bits bs) (out : List Nat) (n v : Nat) (h : Inv n v) (e : Nat) (hd : dec most bs out n v = .inr e) : e = 31 ∨ (e = 3 ∧ 5 * (most + 1) ≤ 5 * out.length + n + bs.length) := by
  induction bs generalizing out n v with
  | nil => cases hd
  | cons b bs ih =>
    have hb2 : b < 2 := hb b (by simp)
    have hbs : Bits bs := fun c hc => hb c (List.mem_cons_of_mem _ hc)
    rw [dec] at hd
    cases hs : sym (n + 1) (2 * v + b) with
    | none =>
      rw [hs] at hd
      rcases ih hbs out (n + 1) (2 * v + b) (h.next hb2 hs) hd with h1 | ⟨h1, h2⟩
      · exact .inl h1
      · exact .inr ⟨h1, by rw [List.length_cons]; omega⟩
    | some s =>
      rw [hs] at hd
      obtain ⟨g1, g2, g3⟩ := h.some hs
      have g4 := (len_bd s g1).1
      simp only at hd
      split at hd
      · injection hd with hd
        exact .inl hd.symm
      · split at hd
        · injection hd with hd
          exact .inr ⟨hd.symm, by rw [List.length_cons]; omega⟩
        · rcases ih hbs (out ++ [s]) 0 0 Inv.zero hd with h1 | ⟨h1, h2⟩
          · exact .inl h1
          · refine .inr ⟨h1, ?_⟩
            simp only [List.length_append, List.length_cons, List.length_nil] at h2 ⊢
            omega

/-! ### what follows -/
/-- What is coded is read as the same, if the limit lets it. -/
theorem decode_enc (l : List Nat) (hl : Byte l) (most : Nat) : decode (enc l) most = if l.length = 0 ∨ l.length ≤ most then (l, 0) else ([], 3) := by
  unfold decode
  rw [bits_enc, padded, dec_enc most l hl]
  by_cases h : l.length = 0 ∨ ([] : List Nat).length + l.length ≤ most
  · have h' : l.length = 0 ∨ l.length ≤ most := by simpa using h
    have hp := pad_lt (encBits l).length
    rw [if_pos h, if_pos h', dec_ones most _ 0 _ (by omega), List.nil_append, Nat.zero_add]
    unfold fin
    simp only
    rw [if_neg (by omega)]
  · have h' : ¬ (l.length = 0 ∨ l.length ≤ most) := by simpa using h
    rw [if_neg h, if_neg h']
    rfl
/-- What is read is coded as it was. -/
theorem enc_decode (l : List Nat) (hl : Byte l) (most : Nat) (t : List Nat) (h : decode l most = (t, 0)) : Byte t ∧ enc t = l := by
  unfold decode at h
  cases hd : dec most (bits l) [] 0 0 with
  | inr e =>
    rw [hd] at h
    unfold fin at h
    rcases dec_inr most _ (bits_bits l) [] 0 0 Inv.zero e hd with h1 | ⟨h1, _⟩
    · subst h1; injection h with _ h; cases h
    · subst h1; injection h with _ h; cases h
  | inl r =>
    obtain ⟨out, n, v⟩ := r
    rw [hd] at h
    unfold fin at h
    simp only at h
    split at h
    · injection h with _ h; cases h
    · rename_i hp
      injection h with h _
      subst h
      obtain ⟨_, t, h2, h3, h4, _⟩ := dec_inl most _ (bits_bits l) [] 0 0 Inv.zero _ _ _ hd
      rw [List.nil_append] at h3
      subst h3
      refine ⟨h2, ?_⟩
      have hn : n ≤ 7 := by omega
      have hv : v = 2 ^ n - 1 := by omega
      subst hv
      rw [bitsN_ones n] at h4
      have h5 : bits l = encBits out ++ List.replicate n 1 := h4
      have h6 := congrArg List.length h5
      rw [bits_length, List.length_append, List.length_replicate] at h6
      have h7 : pad (encBits out).length = n := by unfold pad; omega
      have h8 : padded (encBits out) = bits l := by rw [h5, padded, h7]
      rw [enc, h8, pack_bits l hl]
theorem decode_there (l : List Nat) (e : Nat) (t : List Nat) (h : decode l (2 * l.length) = (t, e)) (he : e ≠ 0) : t = [] ∧ (e = 30 ∨ e = 31) := by
  unfold decode at h
  cases hd : dec (2 * l.length) (bits l) [] 0 0 with
  | inr e' =>
    rw [hd] at h
    unfold fin at h
    injection h with h1 h2
    subst h2
    refine ⟨h1.symm, ?_⟩
    rcases dec_inr _ _ (bits_bits l) [] 0 0 Inv.zero e' hd with h3 | ⟨_, h3⟩
    · exact .inr h3
    · rw [bits_length] at h3
      simp at h3
      omega
  | inl r =>
    obtain ⟨out, n, v⟩ := r
    rw [hd] at h
    unfold fin at h
    simp only at h
    split at h
    · injection h with h1 h2
      exact ⟨h1.symm, .inl h2.symm⟩
    · injection h with _ h2
      exact absurd h2.symm he
theorem enc_bound (l : List Nat) (hl : Byte l) : 5 * l.length ≤ 8 * (enc l).length := by
  have := encBits_ge l hl
  rw [enc_length]
  omega
theorem enc_joins (a b : List Nat) : (enc (a ++ b)).length ≤ (enc a).length + (enc b).length ∧ (enc a).length + (enc b).length ≤ (enc (a ++ b)).length + 1 := by
  rw [enc_length, enc_length, enc_length, encBits_append, List.length_append]
  omega
theorem enc_head (a b : List Nat) : (enc (a ++ b)).take ((enc a).length - 1) = (enc a).take ((enc a).length - 1) := by
  have key : ∀ xs : List Nat, (pack (encBits a ++ xs)).take ((enc a).length - 1) = (pack (encBits a)).take ((enc a).length - 1) := by
    intro xs
    rw [(pack_append (encBits a) xs).1, List.take_append_of_le_length (by rw [pack_length, enc_length]; omega)]
  have h1 : enc (a ++ b) = pack (encBits a ++ (encBits b ++ List.replicate (pad (encBits (a ++ b)).length) 1)) := by
    rw [enc, padded, encBits_append, List.append_assoc]
  have h2 : enc a = pack (encBits a ++ List.replicate (pad (encBits a).length) 1) := rfl
  rw [h1, key]
  conv => rhs; arg 2; rw [h2]
  rw [key]
/-- The last byte left out. -/
theorem decode_torn (l : List Nat) (hl : Byte l) (hne : l ≠ []) (t : List Nat) (e : Nat) (h : decode ((enc l).take ((enc l).length - 1)) l.length = (t, e)) : (e = 0 ∧ t.length < l.length) ∨ e = 30 := by
  unfold decode at h
  have hpos : 0 < l.length := List.length_pos_iff.2 hne
  have hge := encBits_ge l hl
  have hel := enc_length l
  have hb : bits ((enc l).take ((enc l).length - 1)) ++ bits ((enc l).drop ((enc l).length - 1)) = padded (encBits l) := by rw [← bits_append, List.take_append_drop, bits_enc]
  have hlen : (bits ((enc l).take ((enc l).length - 1))).length = 8 * ((enc l).length - 1) := by rw [bits_length, List.length_take, Nat.min_eq_left (by omega)]
  obtain ⟨xs, hxs⟩ : ∃ xs, bits ((enc l).take ((enc l).length - 1)) = xs := ⟨_, rfl⟩
  rw [hxs] at hb hlen h
  have hlt : xs.length < (encBits l).length := by omega
  have hpre : xs = (encBits l).take xs.length := by
    have h1 : xs = (padded (encBits l)).take xs.length := by rw [← hb, List.take_left]
    rw [padded, List.take_append_of_le_length (by omega)] at h1
    exact h1
  have hsplit : encBits l = xs ++ (encBits l).drop xs.length := by
    conv => lhs; rw [← List.take_append_drop xs.length (encBits l)]
    rw [← hpre]
  have hall : dec l.length (encBits l) [] 0 0 = .inl (l, 0, 0) := by
    have := dec_enc l.length l hl [] []
    rw [List.append_nil, if_pos (.inr (by simp))] at this
    rw [this]
    rfl
  rw [hsplit, dec_append] at hall
  cases hd : dec l.length xs [] 0 0 with
  | inr e' => rw [hd] at hall; cases hall
  | inl r =>
    obtain ⟨o, n, v⟩ := r
    rw [hd] at hall h
    simp only at hall
    have hxb : Bits xs := by rw [hpre]; exact (encBits_bits l).take _
    obtain ⟨hi, t0, _, h3, _, _⟩ := dec_inl _ _ hxb [] 0 0 Inv.zero _ _ _ hd
    obtain ⟨_, t1, _, h4, _, h5⟩ := dec_inl _ _ ((encBits_bits l).drop _) o n v hi _ _ _ hall
    unfold fin at h
    simp only at h
    split at h
    · injection h with _ h; exact .inr h.symm
    · injection h with h1 h2
      subst h1
      refine .inl ⟨h2.symm, ?_⟩
      have h6 := congrArg List.length h4
      rw [List.length_append] at h6
      have : t1 ≠ [] := by
        intro he
        have := h5 he
        rw [List.length_drop] at this
        omega
      have := List.length_pos_iff.2 this
      omega
/-- A byte more. -/
theorem decode_more (l : List Nat) (hl : Byte l) (m : Nat) (t : List Nat) (e : Nat) (h : decode (enc l ++ [m]) (2 * l.length + 8) = (t, e)) : e ≠ 3 ∧ (e = 0 → l.length < t.length) := by
  unfold decode at h
  have hp := pad_lt (encBits l).length
  rw [bits_append, bits_enc, padded, List.append_assoc, dec_enc _ l hl, if_pos (.inr (by simp; omega)), dec_append, dec_ones _ _ 0 _ (by omega)] at h
  simp only [Nat.zero_add, List.nil_append] at h
  have hinv : Inv (pad (encBits l).length) (2 ^ pad (encBits l).length - 1) := by
    have := dec_inl 0 (List.replicate (pad (encBits l).length) 1) (Bits.ones _) [] 0 0 Inv.zero [] _ _ (by rw [show (0 : Nat) = 2 ^ 0 - 1 from rfl, dec_ones 0 [] 0 _ (by omega), Nat.zero_add])
    exact this.1
  cases hd : dec (2 * l.length + 8) (bits [m]) l (pad (encBits l).length) (2 ^ pad (encBits l).length - 1) with
  | inr e' =>
    rw [hd] at h
    unfold fin at h
    injection h with h1 h2
    subst h2
    rcases dec_inr _ _ (bits_bits [m]) _ _ _ hinv e' hd with h3 | ⟨_, h3⟩
    · exact ⟨by omega, fun h => by omega⟩
    · rw [bits_length] at h3
      simp at h3
      omega
  | inl r =>
    obtain ⟨o, n, v⟩ := r
    rw [hd] at h
    unfold fin at h
    simp only at h
    split at h
    · injection h with _ h
      subst h
      exact ⟨by omega, fun h => by omega⟩
    · rename_i hpd
      injection h with h1 h2
      subst h1; subst h2
      refine ⟨by omega, fun _ => ?_⟩
      obtain ⟨_, t1, _, h4, _, h5⟩ := dec_inl _ _ (bits_bits [m]) _ _ _ hinv _ _ _ hd
      have h6 := congrArg List.length h4
      rw [List.length_append] at h6
      have : t1 ≠ [] := by
        intro he
        have := h5 he
        rw [bits_length] at this
        simp at this
        omega
      have := List.length_pos_iff.2 this
      omega
end Go.Proofs.Ytmjibpjnhehnnaa.Hf
