/- Blocks that are read: what bounds the weights. No program in sight. -/
import Derived.Test.YtmjibpjnhehnnaaKa
namespace Go.Proofs.Ytmjibpjnhehnnaa.Hk

theorem byte_drop {l : List Nat} (h : Hf.Byte l) (n : Nat) : Hf.Byte (l.drop n) := fun x hx => h x (List.mem_of_mem_drop hx)
theorem byte_take {l : List Nat} (h : Hf.Byte l) (n : Nat) : Hf.Byte (l.take n) := fun x hx => h x (List.mem_of_mem_take hx)
theorem decode_size (l : List Nat) (hl : Hf.Byte l) (m : Nat) (h : (Hf.decode l m).2 = 0) : (Hf.decode l m).1.length ≤ 2 * l.length := by
  obtain ⟨h1, h2⟩ := Hf.enc_decode l hl m (Hf.decode l m).1 (by rw [← h])
  have := Hf.enc_bound _ h1
  rw [h2] at this
  omega
theorem readStr_size (l : List Nat) (hl : Hf.Byte l) (m : Nat) : (Pr.readStr l m).1.length ≤ 2 * (Pr.readStr l m).2.1 ∧ ((Pr.readStr l m).2.2 = 0 → 1 ≤ (Pr.readStr l m).2.1) := by
  unfold Pr.readStr
  simp only
  split
  · rename_i h; exact ⟨by simp, fun h2 => absurd h2 h⟩
  · rename_i h
    have hb := Pr.read_bound l 128 (by omega) (by simpa using h)
    generalize (if 128 ≤ l.getD 0 0 then ((Pr.read l 128).1 + 3) / 4 else (Pr.read l 128).1) = t
    split
    · simp
    · split
      · simp
      · split
        · split
          · rename_i h5; exact ⟨by simp, fun h2 => absurd h2 h5⟩
          · rename_i h5
            have h6 := decode_size ((l.drop (Pr.read l 128).2.1).take (Pr.read l 128).1) (byte_take (byte_drop hl _) _) m (by simpa using h5)
            have h7 : ((l.drop (Pr.read l 128).2.1).take (Pr.read l 128).1).length ≤ (Pr.read l 128).1 := List.length_take_le _ _
            simp only
            exact ⟨by omega, fun _ => by omega⟩
        · have h7 : ((l.drop (Pr.read l 128).2.1).take (Pr.read l 128).1).length ≤ (Pr.read l 128).1 := List.length_take_le _ _
          simp only
          exact ⟨by omega, fun _ => by omega⟩
theorem lit_size (rest : List Nat) (hb : Hf.Byte rest) : (lit rest).1.size + 2 * (lit rest).2.1.length ≤ 2 * rest.length ∧ ((lit rest).2.2 = 0 → (lit rest).2.1.length + 1 ≤ rest.length) ∧ Hf.Byte (lit rest).2.1 := by
  have h1 := readStr_size rest hb most
  have h2 := readStr_used rest most
  unfold lit
  simp only [strN_size, List.length_drop]
  exact ⟨by omega, fun h => by have := h1.2 h; omega, byte_drop hb _⟩
theorem at_size {l : List Tk.Fd} {m : Nat} (h : Tk.sum l ≤ m) (hm : m ≤ 65536) (i : Int) : Tk.wt (Tk.at_ (Tk.all l) i).1 ≤ 65536 := by
  unfold Tk.at_
  split
  · rename_i hi
    generalize hk : (i - 1).toNat = k
    have hlt : k < (Tk.all l).length := by omega
    have hmem : (Tk.all l).getD k Tk.nil ∈ Tk.all l := by
      rw [List.getD_eq_getElem?_getD, List.getElem?_eq_getElem hlt]
      exact List.getElem_mem hlt
    simp only
    rcases List.mem_append.1 hmem with h1 | h1
    · have := Tk.wt_static _ h1; omega
    · have := Tk.sum_mem h1; omega
  · show Tk.wt Tk.nil ≤ 65536
    decide
theorem name_size {l : List Tk.Fd} {m : Nat} (h : Tk.sum l ≤ m) (hm : m ≤ 65536) (n : Nat) (rest : List Nat) (hb : Hf.Byte rest) : (name n l rest).1.size + 2 * (name n l rest).2.1.length ≤ 2 * rest.length + 65536 ∧ Hf.Byte (name n l rest).2.1 := by
  unfold name
  split
  · have := lit_size rest hb
    exact ⟨by omega, this.2.2⟩
  · have := at_size h hm (n : Int)
    unfold Tk.wt at this
    simp only
    exact ⟨by omega, hb⟩
/-- The weights are within C, whatever comes. -/
structure Bd (C : Nat) (s : Rd) : Prop where
  weight : s.weight + 262144 * s.rest.length ≤ C
  out : Tk.sum s.out ≤ s.weight
  tab : Tk.sum s.l ≤ s.m
  room : s.m ≤ 65536
  byte : Hf.Byte s.rest
theorem Bd.mono {C D : Nat} {s : Rd} (h : Bd C s) (hc : C ≤ D) : Bd D s := ⟨Nat.le_trans h.weight hc, h.out, h.tab, h.room, h.byte⟩
theorem take_out {lst : Nat} {f : Tk.Fd} {s : Rd} (h : Tk.sum s.out ≤ s.weight) : Tk.sum (take lst f s).out ≤ (take lst f s).weight := by
  unfold take
  simp only
  split
  · rw [Tk.sum_append, Tk.sum_cons, Tk.sum_nil]; omega
  · omega
theorem spelt_bd {C lst n : Nat} {add : Bool} {s : Rd} (h : Bd C s) : Bd C (spelt lst n add s).2 := by
  have hn := name_size h.tab h.room n s.rest h.byte
  have hnl := name_len n s.l s.rest
  have hv := lit_size (name n s.l s.rest).2.1 hn.2
  have hvl := lit_len (name n s.l s.rest).2.1
  have hw := h.weight
  unfold spelt
  split
  · exact ⟨by simp only; omega, h.out, h.tab, h.room, hn.2⟩
  · split
    · exact ⟨by simp only; omega, h.out, h.tab, h.room, hv.2.2⟩
    · rename_i h2
      have h3 := hv.2.1 (by simpa using h2)
      refine ⟨?_, take_out h.out, ?_, h.room, hv.2.2⟩
      · simp only [take, Tk.wt]
        omega
      · simp only [take]
        split
        · exact Tk.add_sum _ _ _
        · exact h.tab
theorem after_bd {C lst lim b n : Nat} {s : Rd} (h : Bd C s) (hl : lim ≤ 65536) : Bd (C + 262144) (after lst lim b n s).2 := by
  unfold after
  split
  · split
    · exact h.mono (by omega)
    · exact ⟨Nat.le_trans h.weight (by omega), h.out, Tk.shr_sum _ _, by simp only; omega, h.byte⟩
  · split
    · exact h.mono (by omega)
    · split
      · split
        · have h1 := at_size h.tab h.room (n : Int)
          have hw := h.weight
          exact ⟨by simp only [take]; omega, take_out h.out, h.tab, h.room, h.byte⟩
        · exact h.mono (by omega)
      · exact (spelt_bd h).mono (by omega)
theorem num_used (s : Rd) : (num s).2.1 ≤ s.rest.length ∧ ((num s).2.2 = 0 → 1 ≤ (num s).2.1) := by
  have hb := Pr.read_bound s.rest (2 ^ bits (s.rest.getD 0 0)) (pow_bits _).1
  unfold num
  by_cases h : (Pr.read s.rest (2 ^ bits (s.rest.getD 0 0))).2.2 = 0
  · have := hb h; exact ⟨by omega, fun _ => by omega⟩
  · refine ⟨?_, fun h2 => absurd h2 h⟩
    generalize 2 ^ bits (s.rest.getD 0 0) = m at *
    clear hb
    have hm : ∀ (l : List Nat) (i u a : Nat), (Pr.more l i u a).2.2 ≠ 0 → (Pr.more l i u a).2.1 = 0 := by
      intro l
      induction l with
      | nil => intro i u a _; rfl
      | cons b l ih =>
        intro i u a h
        rw [Pr.more] at h ⊢
        split
        · rfl
        · rename_i h1
          rw [if_neg h1] at h
          split
          · rename_i h2; rw [if_pos h2] at h; exact absurd rfl h
          · rename_i h2; rw [if_neg h2] at h; exact ih _ _ _ h
    have h0 : (Pr.read s.rest m).2.1 = 0 := by
      cases hr : s.rest with
      | nil => rfl
      | cons b t =>
        rw [hr] at h
        simp only [Pr.read] at h ⊢
        split
        · rename_i h1; rw [if_pos h1] at h; exact absurd rfl h
        · rename_i h1; rw [if_neg h1] at h; exact hm _ _ _ _ h
    rw [h0]
    exact Nat.zero_le _
theorem behind_bd {C k : Nat} {s : Rd} (h : Bd (C + 262144) s) (hk : 1 ≤ k) (hl : k ≤ s.rest.length) : Bd C (behind s k) := by
  have hw := h.weight
  exact ⟨by simp only [behind, List.length_drop]; omega, h.out, h.tab, h.room, byte_drop h.byte _⟩
theorem behind_bd0 {C k : Nat} {s : Rd} (h : Bd C s) : Bd C (behind s k) := by
  have hw := h.weight
  exact ⟨by simp only [behind, List.length_drop]; omega, h.out, h.tab, h.room, byte_drop h.byte _⟩
theorem next_bd {C lst lim : Nat} {s : Rd} (h : Bd (C + 262144) s) (hl : lim ≤ 65536) : Bd (C + 262144) (next lst lim s).2 := by
  have hu := num_used s
  unfold next
  split
  · exact behind_bd0 h
  · rename_i h1
    exact after_bd (behind_bd h (hu.2 (by simpa using h1)) hu.1) hl
theorem start_bd {C m : Nat} {l : List Tk.Fd} {b : List Nat} (hs : Tk.sum l ≤ m) (hm : m ≤ 65536) (hb : Hf.Byte b) (hC : 262144 * b.length ≤ C) : Bd C (start l m b) := ⟨by simp only [start]; omega, Nat.le_refl _, hs, hm, hb⟩
end Go.Proofs.Ytmjibpjnhehnnaa.Hk
