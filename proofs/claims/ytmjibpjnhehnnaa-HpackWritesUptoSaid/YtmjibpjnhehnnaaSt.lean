/- Texts as lists of numbers; the text of a row of bytes; a text's bits. -/
import Derived.Test.YtmjibpjnhehnnaaChecked
import Derived.KernelRfl
import Derived.Test.YtmjibpjnhehnnaaOn
import Derived.Test.YtmjibpjnhehnnaaHc
namespace Go.Proofs.Ytmjibpjnhehnnaa
open Go.RowKit
attribute [local go_sem ↓] Go.wp_at_zero Go.wp_at_succ

/-- The bytes of a text as numbers, and back. -/
def nats (s : ByteArray) : List Nat := s.data.toList.map UInt8.toNat
def strN (l : List Nat) : ByteArray := ⟨(l.map UInt8.ofNat).toArray⟩
theorem nats_length (s : ByteArray) : (nats s).length = s.size := by rw [nats, List.length_map, Array.length_toList]; rfl
theorem nats_byte (s : ByteArray) : Hf.Byte (nats s) := by
  intro x hx
  simp [nats] at hx
  obtain ⟨u, _, rfl⟩ := hx
  exact u.toNat_lt
theorem nats_strN (l : List Nat) (h : Hf.Byte l) : nats (strN l) = l := by
  simp only [nats, strN, List.map_map]
  conv => rhs; rw [← List.map_id l]
  refine List.map_congr_left fun x hx => ?_
  simp [Nat.mod_eq_of_lt (show x < 256 from h x hx)]
theorem strN_nats (s : ByteArray) : strN (nats s) = s := by
  simp only [nats, strN, List.map_map]
  have : (UInt8.ofNat ∘ UInt8.toNat) = id := by funext u; simp
  rw [this, List.map_id]
theorem strN_nil : strN [] = ⟨#[]⟩ := rfl
theorem strN_size (l : List Nat) : (strN l).size = l.length := by show (l.map UInt8.ofNat).toArray.size = _; rw [List.size_toArray, List.length_map]
theorem nats_at (s : ByteArray) (i : Nat) (h : i < s.size) : (nats s).getD i 0 = (s[i]'h).toNat := by
  have hl : i < s.data.toList.length := by rw [Array.length_toList]; exact h
  simp only [nats, List.getD_eq_getElem?_getD, List.getElem?_map, List.getElem?_eq_getElem hl, Option.map_some, Option.getD_some]
  rfl
theorem run_index_nat (P : Program) (t : TypeId) (hu : P.underlying t = some .string) (s : ByteArray) (i : Nat) (h : i < s.size) (w : World) : (Instr.index t (.string s) (.int .i64 (i : Int))).run P w = .ok (.int .u8 (((nats s).getD i 0 : Nat) : Int)) w := by
  rw [run_index_string w t s .i64 i hu, dif_pos ⟨by omega, by omega⟩, nats_at s i h]
  rfl
def u8s (l : List Nat) : List Value := l.map fun (n : Nat) => Value.int .u8 (n : Int)
theorem u8s_length (l : List Nat) : (u8s l).length = l.length := by simp [u8s]
theorem u8s_append (l m : List Nat) : u8s (l ++ m) = u8s l ++ u8s m := by simp [u8s]
theorem info_u8 : (Try.prog.info? 5).map (fun i => (i.zero, i.size, i.bytes)) = some (some (.int .u8 0), 1, 1) := by kernel_rfl
set_option maxRecDepth 100000 in
/-- The text of the bytes of a row of the call's own. -/
theorem run_text {w : World} {base n : Nat} {A : Option Addr} {c : Nat} {l : List Nat} (h : w.ownsRow base 5 1 (.slice A n c) n (u8s l)) (hl : Hf.Byte l) :
    (convert 67 9 (.slice A n c)).run Try.prog w = .ok (.string (strN l)) w := by
  have hlen : l.length = n := by have := h.1; rw [u8s_length] at this; omega
  by_cases h0 : n = 0
  · subst h0
    have : l = [] := List.eq_nil_of_length_eq_zero hlen
    subst this
    rcases h.2 with ⟨hv, _⟩ | ⟨g, cap, cur, hv, _⟩
    · injection hv with h1 h2 h3
      subst h1
      subst h3
      exact run_convert_bytes_nil w 67 5 Try.underlying67 Try.underlying5 0 0 _ Try.underlying9
    · injection hv with h1 h2 h3
      subst h1
      have := run_convert_bytes_back (P := Try.prog) w 67 9 5 ⟨g, 0, none⟩ c [] Try.underlying67 Try.underlying5 Try.underlying9 (fun j hj => absurd hj (by simp))
      exact this
  · obtain ⟨g, cap, hv, _, _⟩ := h.form (by omega)
    injection hv with h1 h2 h3
    subst h1
    have hc := h.cells (g := g) rfl
    have := run_convert_bytes_back (P := Try.prog) w 67 9 5 ⟨g, 0, none⟩ c (l.map UInt8.ofNat) Try.underlying67 Try.underlying5 Try.underlying9 (fun j hj => by
      rw [List.length_map] at hj
      refine hc j _ ?_
      have hb : l[j] < 256 := hl _ (List.getElem_mem hj)
      simp [u8s, hj, Nat.mod_eq_of_lt hb])
    rw [List.length_map, hlen] at this
    exact this

theorem bits_at (l : List Nat) (k : Nat) (h : k < 8 * l.length) : (Hf.bits l)[k]? = some (l.getD (k / 8) 0 / 2 ^ (7 - k % 8) % 2) := by
  induction l generalizing k with
  | nil => simp at h
  | cons x l ih =>
    rw [Hf.bits_cons]
    by_cases hk : k < 8
    · rw [List.getElem?_append_left (by rw [Hf.bitsN_length]; exact hk)]
      have h8 : ∀ y : Nat, Hf.bitsN 8 y = [y / 2 ^ 7 % 2, y / 2 ^ 6 % 2, y / 2 ^ 5 % 2, y / 2 ^ 4 % 2, y / 2 ^ 3 % 2, y / 2 ^ 2 % 2, y / 2 ^ 1 % 2, y / 2 ^ 0 % 2] := by
        intro y; rw [Hf.bitsN_cons, Hf.bitsN_cons, Hf.bitsN_cons, Hf.bitsN_cons, Hf.bitsN_cons, Hf.bitsN_cons, Hf.bitsN_cons, Hf.bitsN_cons, Hf.bitsN]
      rw [h8, Nat.div_eq_of_lt hk, Nat.mod_eq_of_lt hk]
      match k, hk with
      | 0, _ => rfl
      | 1, _ => rfl
      | 2, _ => rfl
      | 3, _ => rfl
      | 4, _ => rfl
      | 5, _ => rfl
      | 6, _ => rfl
      | 7, _ => rfl
    · rw [List.getElem?_append_right (by rw [Hf.bitsN_length]; omega), Hf.bitsN_length, ih (k - 8) (by simp at h; omega)]
      have e1 : k / 8 = (k - 8) / 8 + 1 := by omega
      have e2 : (k - 8) % 8 = k % 8 := by omega
      rw [e1, e2]
      rfl

end Go.Proofs.Ytmjibpjnhehnnaa
