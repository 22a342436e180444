/- The symbols in the document's order: facts that the kernel reckons. No program in sight. -/
import Derived.Test.YtaogmekmampegaaHc
namespace Go.Proofs.Ytaogmekmampegaa.Hf

/-- All symbols, the shortest codes first. -/
def ord : List Nat := havs.flatten
/-- How many symbols have shorter codes. -/
def start (n : Nat) : Nat := (havs.take n).flatten.length
/-- The symbols that stand ahead: those of shorter codes, and the first of those of n bits. -/
def ahead (n k : Nat) : List Nat := (havs.take n).flatten ++ (List.range k).filter fun s => len s == n
theorem ord_length : ord.length = 257 := by decide +kernel
theorem start_succ : ∀ n, n < 31 → start (n + 1) = start n + cnt n := by decide +kernel
theorem start_end : start 31 = 257 := by decide +kernel
theorem ord_at : ∀ n, n < 31 → ∀ k, k < cnt n → ord[start n + k]? = (hav n)[k]? := by decide +kernel
theorem ahead_zero : ahead 1 0 = [] := by decide +kernel
theorem ahead_end : ∀ n, n < 31 → ahead n 257 = ahead (n + 1) 0 := by decide +kernel
theorem ahead_all : ahead 31 0 = ord := by decide +kernel
theorem ahead_skip (n k : Nat) (h : len k ≠ n) : ahead n (k + 1) = ahead n k := by
  unfold ahead
  have e : (len k == n) = false := beq_eq_false_iff_ne.2 h
  rw [List.range_succ, List.filter_append, List.filter_cons, List.filter_nil, e]
  simp
theorem ahead_take (k : Nat) : ahead (len k) (k + 1) = ahead (len k) k ++ [k] := by
  unfold ahead
  rw [List.range_succ, List.filter_append, List.filter_cons, List.filter_nil, beq_self_eq_true, List.append_assoc]
  rfl
theorem flat_le : ∀ n, n < 32 → (havs.take n).flatten.length ≤ 257 := by decide +kernel
theorem ahead_le (n k : Nat) (hn : n < 32) (hk : k ≤ 257) : (ahead n k).length ≤ 514 := by
  have h1 := flat_le n hn
  have h2 := List.length_filter_le (fun s => len s == n) (List.range k)
  rw [List.length_range] at h2
  unfold ahead
  rw [List.length_append]
  omega
/-- The code and the length of the last one. -/
def lastOf (l : List Nat) : Nat × Nat := match l.getLast? with
  | none => (0, 0)
  | some x => (code x, len x)
theorem lastOf_snoc (l : List Nat) (x : Nat) : lastOf (l ++ [x]) = (code x, len x) := by simp [lastOf]
/-- The next code. -/
theorem code_next : ∀ s, s < 257 → (ahead (len s) s = [] → code s = 0) ∧ (ahead (len s) s ≠ [] → (lastOf (ahead (len s) s)).2 ≤ len s ∧ code s = ((lastOf (ahead (len s) s)).1 + 1) * 2 ^ (len s - (lastOf (ahead (len s) s)).2)) := by decide +kernel
theorem ord_lt : ∀ x ∈ ord, x < 257 := by decide +kernel
theorem ahead_lt (n k : Nat) (hk : k ≤ 257) : ∀ x ∈ ahead n k, x < 257 := by
  intro x hx
  rcases List.mem_append.1 hx with h | h
  · refine ord_lt x ?_
    rw [List.mem_flatten] at h
    obtain ⟨l, hl, hx⟩ := h
    exact List.mem_flatten.2 ⟨l, List.mem_of_mem_take hl, hx⟩
  · have := List.mem_range.1 (List.mem_filter.1 h).1
    omega
theorem code_bd (s : Nat) (h : s < 257) : code s < 1073741824 := by
  have h1 := code_lt s h
  have h2 : 2 ^ len s ≤ 2 ^ 30 := Nat.pow_le_pow_right (by omega) (len_bd s h).2
  omega
theorem last_bd (n k : Nat) (hk : k ≤ 257) : (lastOf (ahead n k)).1 < 1073741824 ∧ (lastOf (ahead n k)).2 ≤ 30 := by
  unfold lastOf
  cases h : (ahead n k).getLast? with
  | none => exact ⟨by simp, by simp⟩
  | some x =>
    have hx := ahead_lt n k hk x (List.mem_of_getLast? h)
    exact ⟨code_bd x hx, (len_bd x hx).2⟩
theorem place_inj : ∀ i, i < 257 → ord.idxOf (ord.getD i 0) = i := by decide +kernel
theorem place_at : ∀ s, s < 257 → ord.idxOf s < 257 ∧ ord.getD (ord.idxOf s) 0 = s := by decide +kernel
theorem len_ord : ∀ i, i < 257 → ord.getD i 0 < 257 ∧ start (len (ord.getD i 0)) ≤ i ∧ i < start (len (ord.getD i 0) + 1) := by decide +kernel
end Go.Proofs.Ytaogmekmampegaa.Hf
