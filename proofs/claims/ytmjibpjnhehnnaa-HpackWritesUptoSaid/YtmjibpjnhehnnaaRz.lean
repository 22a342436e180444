/- The reference's power and Int, walked: the same bytes. The symbols in the document's order: facts that the kernel reckons. No program in sight. The reference's table of codes: three rows of the call's own in one block; its list of lengths. The reference's codes, walked: the symbols in the document's order, their lengths and their codes. The reference's place and bits, walked. The reference's Encode, walked: it codes as the plain law does. The reference's Str, walked: it writes as the plain law does (as in XPn, without the reference's reading). The reference's all, At, Find, walked. -/
import Derived.Test.YtmjibpjnhehnnaaPb
import Derived.Test.YtmjibpjnhehnnaaHc
import Derived.Test.YtmjibpjnhehnnaaOn
import Derived.Test.YtmjibpjnhehnnaaHl
import Derived.Deep.LoopGhost
import Derived.Deep.QuietTactic
import Derived.BigQuiet
import Derived.Deep.DeepCutAuto
import Derived.Test.YtmjibpjnhehnnaaSt
import Derived.StillTailTactics
import Derived.Laws.BitsAllLaws
import Derived.Test.YtmjibpjnhehnnaaPi
import Derived.Test.YtmjibpjnhehnnaaTv
/-! The reference's power and Int, walked: the same bytes. -/
namespace Go.Proofs.Ytmjibpjnhehnnaa
open Go.RowKit
attribute [local go_sem ↓] Go.wp_at_zero Go.wp_at_succ

set_option maxRecDepth 100000 in
theorem power_any (b : Nat) (w : World) (hb : b ≤ 8) :
    Calls Try.prog 72 #[.int .i64 (b : Int)] w fun e w' => e = .returned (.int .i64 ((2 ^ b : Nat) : Int)) ∧ w = w' := by
  go_enter Try.func72, Try.ntmps72
  go_wp2
  go_loopw [3, 4] (fun k i wr => ∃ j : Nat, j ≤ b ∧ i = .int .i64 (j : Int) ∧ k = .int .i64 ((2 ^ j : Nat) : Int) ∧ wr = w) (fun _ i _ => b - (intOf i).toNat)
  case atStart => exact ⟨0, by omega, rfl, rfl, rfl⟩
  case round =>
    obtain ⟨j, hj, rfl, rfl, rfl⟩ := hrel
    by_cases hlt : j < b
    · have hI : (j : Int) < (b : Int) := by omega
      have hp : 2 ^ j ≤ 2 ^ 8 := Nat.pow_le_pow_right (by omega) (by omega)
      have hs : 2 ^ (j + 1) = 2 * 2 ^ j := by rw [Nat.pow_succ, Nat.mul_comm]
      have hw1 : IntKind.i64.wrap (2 * ((2 ^ j : Nat) : Int)) = ((2 ^ (j + 1) : Nat) : Int) := by rw [hs, IntWalk.i64_in _ (by omega)]; omega
      have hw2 : IntKind.i64.wrap ((j : Int) + 1) = ((j + 1 : Nat) : Int) := IntWalk.i64_in _ (by omega)
      generalize hx : 2 ^ j = x at hw1 ⊢
      generalize hy : 2 ^ (j + 1) = y at hw1
      clear hp hs
      have HX := Lib.hid hx
      have HY := Lib.hid hy
      clear hx hy
      go_wp2
      go_roundw
      case measure => simp [intOf]; omega
      case rel => exact ⟨j + 1, by omega, rfl, by rw [HY.out], trivial⟩
    · obtain rfl : j = b := by omega
      generalize hx : 2 ^ j = x
      have HX := Lib.hid hx
      clear hx
      go_wp2
      go_ret
      rw [HX.out]
      exact ⟨rfl, rfl⟩

set_option maxRecDepth 100000 in
theorem refInt_bad (h : Int) (b n : Int) (w : World) (hb : b < 1 ∨ 8 < b ∨ n < 0 ∨ 2147483647 < n) :
    Calls Try.prog 57 #[.int .u8 h, .int .i64 b, .int .i64 n] w fun e w' => e = .returned (.tuple #[.string ⟨#[]⟩, .int .i64 1]) ∧ w' = w := by
  by_cases h1 : b < 1
  · go_enter Try.func57, Try.ntmps57
    go_wp2
    go_ret2
    exact ⟨rfl, rfl⟩
  · by_cases h2 : 8 < b
    · go_enter Try.func57, Try.ntmps57
      go_wp2
      go_ret2
      exact ⟨rfl, rfl⟩
    · by_cases h3 : n < 0
      · go_enter Try.func57, Try.ntmps57
        go_wp2
        go_ret2
        exact ⟨rfl, rfl⟩
      · have h4 : 2147483647 < n := by omega
        go_enter Try.func57, Try.ntmps57
        go_wp2
        go_ret2
        exact ⟨rfl, rfl⟩

set_option maxRecDepth 100000 in
set_option maxHeartbeats 2000000 in
theorem refInt_good (h b n m : Nat) (w : World) (hb1 : 1 ≤ b) (hb8 : b ≤ 8) (hh : h < 256) (hn : n ≤ 2147483647) (hm : m = 2 ^ b) :
    Calls Try.prog 57 #[.int .u8 (h : Int), .int .i64 (b : Int), .int .i64 (n : Int)] w fun e w' => e = .returned (.tuple #[.string (strN (Pr.wInt h m n).1), .int .i64 ((Pr.wInt h m n).2 : Nat)]) ∧ Below w.heap.size w w' := by
  have hm1 := pow_in b m hb1 hb8 hm
  have hpow := power_any b
  have HP := Lib.hid hpow
  clear hpow
  have hbI1 : ¬ (b : Int) < 1 := by omega
  have hbI8 : ¬ (8 : Int) < (b : Int) := by omega
  have hn0 : ¬ (n : Int) < 0 := by omega
  have hn1 : ¬ (2147483647 : Int) < (n : Int) := by omega
  have hms : IntKind.i64.wrap ((m : Int) - 1) = ((m - 1 : Nat) : Int) := by rw [IntWalk.i64_in _ (by omega)]; omega
  have hwh : IntKind.i64.wrap (h : Int) = (h : Int) := IntWalk.i64_in _ (by omega)
  have hrem : (h : Int).tmod (m : Int) = ((h % m : Nat) : Int) := by rw [Int.tmod_eq_emod_of_nonneg (by omega)]; rfl
  have hmz : ¬ (m : Int) = 0 := by omega
  by_cases hr : h % m = 0
  · have hw : Pr.wInt h m n = (Pr.int h m n, 0) := if_pos hr
    rw [hw]
    rw [hr] at hrem
    have hrem : (h : Int).tmod (m : Int) = 0 := hrem
    have hil := Pr.int_len h m n hn
    by_cases hlt : n < m - 1
    · have hin : Pr.int h m n = [h + n] := if_pos hlt
      rw [hin]
      have hlt2 : h + n < 256 := by
        have : h / m * m + h % m = h := by rw [Nat.mul_comm]; exact Nat.div_add_mod h m
        have h3 : m ∣ 256 := by rw [hm]; exact Nat.pow_dvd_pow 2 hb8
        obtain ⟨c, hc⟩ := h3
        have h4 : h / m < c := by
          rw [hc] at hh
          exact Nat.div_lt_of_lt_mul hh
        have h5 : (h / m + 1) * m ≤ c * m := Nat.mul_le_mul_right m h4
        rw [Nat.add_mul, Nat.one_mul, Nat.mul_comm c m, ← hc] at h5
        omega
      have htext := run_text1 w (h + n) hlt2
      have hor : ((h : Int) + (n : Int)) % 256 = ((h + n : Nat) : Int) := by omega
      have hor2 : IntKind.u8.wrap ((h : Int) + (n : Int)) = ((h + n : Nat) : Int) := by rw [IntWalk.u8_in _ (by omega)]; omega
      have hnI : (n : Int) < ((m - 1 : Nat) : Int) := by omega
      have hn256 : (n : Int) % 256 = (n : Int) := by omega
      have hbel : Below w.heap.size w (w.alloc (.cells #[.int .u8 ((h + n : Nat) : Int)] 5)) := (Below.refl _ _).alloc (Nat.le_refl _) _
      generalize h + n = y at hor hor2 htext hbel ⊢
      generalize m - 1 = k at hms hnI
      have HM := Lib.hid hm
      clear hm hm1 hr hh hn hlt hw hin hil hlt2
      go_enter Try.func57, Try.ntmps57
      go_wp2_with fail
      refine (HP.out _ hb8).mono ?_
      rintro e w1 ⟨rfl, rfl⟩
      rw [← HM.out]
      go_wp2
      go_ret2
      exact ⟨rfl, hbel⟩
    · have hin : Pr.int h m n = (h + (m - 1)) :: Pr.put (n - (m - 1)) := if_neg hlt
      have hlt2 : h + (m - 1) < 256 := by
        have : h / m * m + h % m = h := by rw [Nat.mul_comm]; exact Nat.div_add_mod h m
        have h3 : m ∣ 256 := by rw [hm]; exact Nat.pow_dvd_pow 2 hb8
        obtain ⟨c, hc⟩ := h3
        have h4 : h / m < c := by
          rw [hc] at hh
          exact Nat.div_lt_of_lt_mul hh
        have h5 : (h / m + 1) * m ≤ c * m := Nat.mul_le_mul_right m h4
        rw [Nat.add_mul, Nat.one_mul, Nat.mul_comm c m, ← hc] at h5
        omega
      have hown := own_one w (h + (m - 1))
      have hor : ((h : Int) + ((m - 1 : Nat) : Int)) % 256 = ((h + (m - 1) : Nat) : Int) := by omega
      have hor2 : IntKind.u8.wrap ((h : Int) + ((m - 1 : Nat) : Int)) = ((h + (m - 1) : Nat) : Int) := by rw [IntWalk.u8_in _ (by omega)]; omega
      have hnI : ¬ (n : Int) < ((m - 1 : Nat) : Int) := by omega
      have hnd : decide (n < m - 1) = false := decide_eq_false hlt
      have hk256 : ((m - 1 : Nat) : Int) % 256 = ((m - 1 : Nat) : Int) := by omega
      have hbel : Below w.heap.size w (w.alloc (.cells #[.int .u8 ((h + (m - 1) : Nat) : Int)] 5)) := (Below.refl _ _).alloc (Nat.le_refl _) _
      have hsub : IntKind.i64.wrap ((n : Int) - ((m - 1 : Nat) : Int)) = ((n - (m - 1) : Nat) : Int) := by rw [IntWalk.i64_in _ (by omega)]; omega
      have hq0 : n - (m - 1) ≤ 2147483647 := by omega
      rw [hin] at hil ⊢
      generalize n - (m - 1) = q0 at hsub hq0 hil ⊢
      generalize h + (m - 1) = y at hor hor2 hlt2 hown hbel hil ⊢
      generalize m - 1 = k at hms hnI hnd hor hor2 hk256 hsub
      have HM := Lib.hid hm
      have HIL := Lib.hid hil
      have HQ0 := Lib.hid hq0
      have HY := Lib.hid hlt2
      clear hm hm1 hr hh hn hlt hw hin hil hlt2 hq0
      go_enter Try.func57, Try.ntmps57
      go_wp2_with fail
      refine (HP.out _ hb8).mono ?_
      rintro e w1 ⟨rfl, rfl⟩
      rw [← HM.out]
      go_wp2
      go_loopw [2, 9] (fun n o wr => ∃ (q : Nat) (out : List Nat), n = .int .i64 (q : Int) ∧ wr.ownsRow w.heap.size 5 1 o out.length (u8s out) ∧ out ++ Pr.put q = y :: Pr.put q0 ∧ q ≤ 2147483647 ∧ Hf.Byte out ∧ Below w.heap.size w wr) (fun n _ _ => (intOf n).toNat)
      case atStart => exact ⟨q0, [y], rfl, hown, rfl, HQ0.out, (by intro x hx; simp at hx; have := HY.out; omega), hbel⟩
      case round =>
        obtain ⟨q, out, rfl, hown2, heq, hq, hbyte, hB⟩ := hrel
        obtain ⟨A, c, rfl⟩ := own_slice hown2
        have hlen : out.length + 1 ≤ 6 := by
          have h1 := HIL.out.2
          rw [← heq, List.length_append] at h1
          have h2 : 1 ≤ (Pr.put q).length := by
            by_cases h3 : q < 128
            · rw [Pr.put_short h3]; simp
            · rw [Pr.put_long (by omega)]; simp
          omega
        by_cases h127 : q < 128
        · have hqI : ¬ (128 : Int) ≤ (q : Int) := by omega
          have hq256 : (q : Int) % 256 = (q : Int) := by omega
          rw [Pr.put_short h127] at heq
          have hby : Hf.Byte (out ++ [q]) := byte_snoc hbyte (by omega)
          have HEQ := Lib.hid heq
          have HLEN := Lib.hid hlen
          have HBY := Lib.hid hby
          clear heq hlen hq hbyte hby hown hbel h127
          go_wp2_with (at_builtin; go_must (refine wpList_push w.heap.size (by rfl) _ _ 67 5 _ 1 (by rfl) Try.underlying67 info_u8 rfl (.slice A out.length c) out.length (u8s out) (.int .u8 (q : Int)) (by rfl) (by rfl) rfl (by exact hown2) hB.size (by have := HLEN.out; unfold maxLen; omega) (by have := HLEN.out; omega) ?_; intro v5 w5 hown5 hg5 hat5))
          have hB5 : Below w.heap.size w w5 := (hB.alloc hB.size _).grown hg5 (by have := hB.size; simp; omega) (fun g hg => (hown2.lt g hg).1)
          obtain ⟨A5, c5, rfl⟩ := own_slice hown5
          have hown6 : w5.ownsRow w.heap.size 5 1 (.slice A5 (out.length + 1) c5) (out.length + 1) (u8s (out ++ [q])) := by rw [u8s_append]; exact hown5
          have htext := run_text hown6 HBY.out
          clear hown2 hown5 hown6 hg5 hat5 hB
          go_simp
          go_wp2
          go_ret2
          rw [HEQ.out]
          exact ⟨rfl, hB5⟩
        · have hqI : (128 : Int) ≤ (q : Int) := by omega
          have hrq : (q : Int).tmod 128 = ((q % 128 : Nat) : Int) := by rw [Int.tmod_eq_emod_of_nonneg (by omega)]; rfl
          have hsq : IntKind.i64.wrap (128 + ((q % 128 : Nat) : Int)) = ((128 + q % 128 : Nat) : Int) := by rw [IntWalk.i64_in _ (by omega)]; omega
          have hzq : ((128 + q % 128 : Nat) : Int) % 256 = ((128 + q % 128 : Nat) : Int) := by omega
          have hdw : IntKind.i64.wrap ((q / 128 : Nat) : Int) = ((q / 128 : Nat) : Int) := IntWalk.i64_in _ (by omega)
          rw [Pr.put_long (by omega), show out ++ (128 + q % 128) :: Pr.put (q / 128) = (out ++ [128 + q % 128]) ++ Pr.put (q / 128) from by simp] at heq
          have hby : Hf.Byte (out ++ [128 + q % 128]) := byte_snoc hbyte (by omega)
          have hdiv : (q : Int) / 128 = ((q / 128 : Nat) : Int) := by omega
          have hdlt : q / 128 < q := by omega
          have hd2 : q / 128 ≤ 2147483647 := by omega
          generalize q / 128 = q' at heq hdiv hdw hdlt hd2
          generalize 128 + q % 128 = z at hsq hzq heq hby
          generalize q % 128 = q2 at hrq hsq
          have HEQ := Lib.hid heq
          have HLEN := Lib.hid hlen
          have HBY := Lib.hid hby
          have HD2 := Lib.hid hd2
          clear heq hlen hq hbyte hby hown hbel h127 hd2
          go_wp2_with (at_builtin; go_must (refine wpList_push w.heap.size (by rfl) _ _ 67 5 _ 1 (by rfl) Try.underlying67 info_u8 rfl (.slice A out.length c) out.length (u8s out) (.int .u8 (z : Int)) (by rfl) (by rfl) rfl (by exact hown2) hB.size (by have := HLEN.out; unfold maxLen; omega) (by have := HLEN.out; omega) ?_; intro v5 w5 hown5 hg5 hat5))
          have hB5 : Below w.heap.size w w5 := (hB.alloc hB.size _).grown hg5 (by have := hB.size; simp; omega) (fun g hg => (hown2.lt g hg).1)
          have hown6 : w5.ownsRow w.heap.size 5 1 v5 (out ++ [z]).length (u8s (out ++ [z])) := by rw [u8s_append, List.length_append]; exact hown5
          clear hown2 hown5 hg5 hat5 hB
          go_wp2
          go_roundw
          case measure => simp [intOf]; omega
          case rel => exact ⟨q', out ++ [z], rfl, hown6, HEQ.out, HD2.out, HBY.out, hB5⟩
  · have hw : Pr.wInt h m n = ([], 1) := if_neg hr
    rw [hw]
    have hne : (((h % m : Nat) : Int) != 0) = true := by rw [bne_iff_ne]; omega
    generalize h % m = r at hrem hne
    generalize m - 1 = k at hms
    have HM := Lib.hid hm
    clear hm hm1 hr hh hn hw
    go_enter Try.func57, Try.ntmps57
    go_wp2_with fail
    refine (HP.out _ hb8).mono ?_
    rintro e w1 ⟨rfl, rfl⟩
    rw [← HM.out]
    go_wp2
    go_ret2
    exact ⟨rfl, Below.refl _ _⟩
end Go.Proofs.Ytmjibpjnhehnnaa

/-! The symbols in the document's order: facts that the kernel reckons. No program in sight. -/
namespace Go.Proofs.Ytmjibpjnhehnnaa.Hf

/-- All symbols, the shortest codes first. -/
def ord : List Nat := havs.flatten
/-- How many symbols have shorter codes. -/
def start (n : Nat) : Nat := (havs.take n).flatten.length
/-- The symbols that stand ahead: those of shorter codes, and the first of those of n bits. -/
def ahead (n k : Nat) : List Nat := (havs.take n).flatten ++ (List.range k).filter fun s => len s == n
theorem ord_length : ord.length = 257 := by decide +kernel
theorem start_succ : ∀ n, n < 31 → start (n + 1) = start n + cnt n := by decide +kernel
theorem start_end : start 31 = 257 := by decide +kernel
theorem ord_at : ∀ n, n < 31 → ∀ k, k < cnt n → ord[start n + k]? = (hav n)[k]? := by decide +kernel
theorem ahead_zero : ahead 1 0 = [] := by decide +kernel
theorem ahead_end : ∀ n, n < 31 → ahead n 257 = ahead (n + 1) 0 := by decide +kernel
theorem ahead_all : ahead 31 0 = ord := by decide +kernel
theorem ahead_skip (n k : Nat) (h : len k ≠ n) : ahead n (k + 1) = ahead n k := by
  unfold ahead
  have e : (len k == n) = false := beq_eq_false_iff_ne.2 h
  rw [List.range_succ, List.filter_append, List.filter_cons, List.filter_nil, e]
  simp
theorem ahead_take (k : Nat) : ahead (len k) (k + 1) = ahead (len k) k ++ [k] := by
  unfold ahead
  rw [List.range_succ, List.filter_append, List.filter_cons, List.filter_nil, beq_self_eq_true, List.append_assoc]
  rfl
theorem flat_le : ∀ n, n < 32 → (havs.take n).flatten.length ≤ 257 := by decide +kernel
theorem ahead_le (n k : Nat) (hn : n < 32) (hk : k ≤ 257) : (ahead n k).length ≤ 514 := by
  have h1 := flat_le n hn
  have h2 := List.length_filter_le (fun s => len s == n) (List.range k)
  rw [List.length_range] at h2
  unfold ahead
  rw [List.length_append]
  omega
/-- The code and the length of the last one. -/
def lastOf (l : List Nat) : Nat × Nat := match l.getLast? with
  | none => (0, 0)
  | some x => (code x, len x)
theorem lastOf_snoc (l : List Nat) (x : Nat) : lastOf (l ++ [x]) = (code x, len x) := by simp [lastOf]
/-- The next code. -/
theorem code_next : ∀ s, s < 257 → (ahead (len s) s = [] → code s = 0) ∧ (ahead (len s) s ≠ [] → (lastOf (ahead (len s) s)).2 ≤ len s ∧ code s = ((lastOf (ahead (len s) s)).1 + 1) * 2 ^ (len s - (lastOf (ahead (len s) s)).2)) := by decide +kernel
theorem ord_lt : ∀ x ∈ ord, x < 257 := by decide +kernel
theorem ahead_lt (n k : Nat) (hk : k ≤ 257) : ∀ x ∈ ahead n k, x < 257 := by
  intro x hx
  rcases List.mem_append.1 hx with h | h
  · refine ord_lt x ?_
    rw [List.mem_flatten] at h
    obtain ⟨l, hl, hx⟩ := h
    exact List.mem_flatten.2 ⟨l, List.mem_of_mem_take hl, hx⟩
  · have := List.mem_range.1 (List.mem_filter.1 h).1
    omega
theorem code_bd (s : Nat) (h : s < 257) : code s < 1073741824 := by
  have h1 := code_lt s h
  have h2 : 2 ^ len s ≤ 2 ^ 30 := Nat.pow_le_pow_right (by omega) (len_bd s h).2
  omega
theorem last_bd (n k : Nat) (hk : k ≤ 257) : (lastOf (ahead n k)).1 < 1073741824 ∧ (lastOf (ahead n k)).2 ≤ 30 := by
  unfold lastOf
  cases h : (ahead n k).getLast? with
  | none => exact ⟨by simp, by simp⟩
  | some x =>
    have hx := ahead_lt n k hk x (List.mem_of_getLast? h)
    exact ⟨code_bd x hx, (len_bd x hx).2⟩
theorem place_inj : ∀ i, i < 257 → ord.idxOf (ord.getD i 0) = i := by decide +kernel
theorem place_at : ∀ s, s < 257 → ord.idxOf s < 257 ∧ ord.getD (ord.idxOf s) 0 = s := by decide +kernel
theorem len_ord : ∀ i, i < 257 → ord.getD i 0 < 257 ∧ start (len (ord.getD i 0)) ≤ i ∧ i < start (len (ord.getD i 0) + 1) := by decide +kernel
end Go.Proofs.Ytmjibpjnhehnnaa.Hf

/-! The reference's table of codes: three rows of the call's own in one block; its list of lengths. -/
namespace Go.Proofs.Ytmjibpjnhehnnaa
open Go.RowKit
attribute [local go_sem ↓] Go.wp_at_zero Go.wp_at_succ

def i64s (l : List Nat) : List Value := l.map fun (n : Nat) => Value.int .i64 (n : Int)
theorem i64s_length (l : List Nat) : (i64s l).length = l.length := by simp [i64s]
theorem i64s_append (l m : List Nat) : i64s (l ++ m) = i64s l ++ i64s m := by simp [i64s]
theorem i64s_at (l : List Nat) (i : Nat) (h : i < l.length) : (i64s l)[i]? = some (.int .i64 (l.getD i 0 : Nat)) := by
  simp [i64s, h]
theorem info_int : (Try.prog.info? 3).map (fun i => (i.zero, i.size, i.bytes)) = some (some (.int .i64 0), 1, 8) := by kernel_rfl

def up {α : Type} (f : Nat → α) (k : Nat) (x : α) : Nat → α := fun i => if i = k then x else f i
theorem up_same {α : Type} (f : Nat → α) (k : Nat) (x : α) : up f k x k = x := if_pos rfl
theorem up_ne {α : Type} (f : Nat → α) {k i : Nat} (x : α) (h : i ≠ k) : up f k x i = f i := if_neg h

/-- Three rows, their values in block b. -/
structure Cb (w : World) (b : Nat) (hv : Nat → Value) (rows : Nat → List Nat) : Prop where
  blk : w.heap[b]? = some (.cells #[hv 0, hv 1, hv 2] 139 (0, 0))
  own : ∀ i, i < 3 → w.ownsRow (b + 1) 3 1 (hv i) (rows i).length (i64s (rows i))
  apart : ∀ i j, i < 3 → j < 3 → i ≠ j → (hv i).ownBlock = none ∨ (hv i).ownBlock ≠ (hv j).ownBlock

section
variable {w w' w1 : World} {b : Nat} {hv : Nat → Value} {rows : Nat → List Nat}
theorem Cb.lt (h : Cb w b hv rows) : b < w.heap.size := heap_lt h.blk
theorem Cb.cell (h : Cb w b hv rows) (i : Nat) (hi : i < 3) : w.cell? ⟨b, i, none⟩ = some (hv i) := by
  rw [cell_of_row w b _ _ _ _ h.blk]
  match i, hi with
  | 0, _ => rfl
  | 1, _ => rfl
  | 2, _ => rfl
theorem Cb.thawed (h : Cb w b hv rows) (i : Nat) : w.frozen? ⟨b, i, none⟩ = false := frozen_of_row w b _ _ _ h.blk
theorem cown_notB {e size n : Nat} {v : Value} {xs : List Value} (h : w.ownsRow (b + 1) e size v n xs) : v.ownBlock = none ∨ v.ownBlock ≠ some b := by
  cases hv : v.ownBlock with
  | none => exact .inl rfl
  | some k => exact .inr fun e => by injection e with e; have := (h.lt k hv).1; omega
theorem Cb.only {S : Nat → Prop} (h : Cb w b hv rows) (ho : Only S w w') (hS : ∀ k, S k → k < b) : Cb w' b hv rows := by
  refine ⟨ho.block' h.blk (fun hk => by have := hS b hk; omega), fun n hn => ?_, h.apart⟩
  have h1 := h.own n hn
  refine ⟨h1.1, ?_⟩
  rcases h1.2 with hn' | ⟨g, cap, cur, hvn, hg, hgg, r⟩
  · exact .inl hn'
  · exact .inr ⟨g, cap, cur, hvn, hg, ho.block' hgg (fun hk => by have := hS g hk; omega), r⟩
theorem Cb.below (h : Cb w b hv rows) (hb : Below w.heap.size w w') : Cb w' b hv rows := h.only (Only.of_below (fun _ => False) hb) (fun _ hk => hk.elim)
theorem csetCell_grown (w : World) (b i : Nat) (u : Value) : w.grownBy (w.setCell ⟨b, i, none⟩ u) (some b) :=
  ⟨rfl, rfl, rfl, by simp [World.setCell], fun k _ hk => Below.heap_setCell _ _ _ _ (fun e => hk (by rw [e]))⟩
/-- An append to one row, and its value stored. -/
theorem Cb.push {ob : Obj} (h : Cb w b hv rows) (n0 s : Nat) (hn0 : n0 < 3) {v1 : Value} (hown : w1.ownsRow (b + 1) 3 1 v1 ((rows n0).length + 1) (i64s (rows n0) ++ [.int .i64 (s : Int)]))
    (hg : (w.alloc ob).grownBy w1 (hv n0).ownBlock) (hat : v1.ownBlock = (hv n0).ownBlock ∨ v1.ownBlock = some (w.heap.size + 1)) :
    Cb (w1.setCell ⟨b, n0, none⟩ v1) b (up hv n0 v1) (up rows n0 (rows n0 ++ [s])) := by
  have hlt := h.lt
  have hb1 : w1.heap[b]? = some (.cells #[hv 0, hv 1, hv 2] 139 (0, 0)) := by
    rw [hg.block b (by simp; omega) (fun e => by
      rcases cown_notB (h.own n0 hn0) with h1 | h1
      · rw [h1] at e; cases e
      · exact h1 e.symm), Below.heap_alloc _ _ _ hlt]
    exact h.blk
  refine ⟨?_, fun n hn => ?_, fun m n hm hn hne => ?_⟩
  · rw [heap_setCell_same w1 b _ _ _ _ hb1]
    match n0, hn0 with
    | 0, _ => rfl
    | 1, _ => rfl
    | 2, _ => rfl
  · by_cases e : n = n0
    · subst e
      rw [up_same, up_same]
      have h2 : w1.ownsRow (b + 1) 3 1 v1 (rows n ++ [s]).length (i64s (rows n ++ [s])) := by
        rw [i64s_append, List.length_append]; exact hown
      exact h2.kept (csetCell_grown w1 b _ _) (cown_notB h2)
    · rw [up_ne _ _ e, up_ne _ _ e]
      have h2 : w1.ownsRow (b + 1) 3 1 (hv n) (rows n).length (i64s (rows n)) := ((h.own n hn).alloc ob).kept hg (h.apart n n0 hn hn0 e)
      exact h2.kept (csetCell_grown w1 b _ _) (cown_notB h2)
  · by_cases em : m = n0
    · subst em
      have hnn : n ≠ m := fun e => hne e.symm
      rw [up_same, up_ne _ _ hnn]
      rcases hat with hat | hat
      · rw [hat]; exact h.apart m n hm hn hne
      · rw [hat]
        refine .inr fun e => ?_
        have := ((h.own n hn).lt _ e.symm).2
        omega
    · rw [up_ne _ _ em]
      by_cases en : n = n0
      · subst en
        rw [up_same]
        rcases hat with hat | hat
        · rw [hat]; exact h.apart m n hm hn hne
        · rw [hat]
          cases hm' : (hv m).ownBlock with
          | none => exact .inl rfl
          | some k =>
            refine .inr fun e => ?_
            injection e with e
            have := ((h.own m hm).lt _ hm').2
            omega
      · rw [up_ne _ _ en]; exact h.apart m n hm hn hne
/-- Behind an append to one row the block itself is as it was. -/
theorem Cb.pushed {ob : Obj} (h : Cb w b hv rows) (n0 : Nat) (hn0 : n0 < 3) (hg : (w.alloc ob).grownBy w1 (hv n0).ownBlock) : w1.heap[b]? = w.heap[b]? := by
  have hlt := h.lt
  rw [hg.block b (by simp; omega) (fun e => by
      rcases cown_notB (h.own n0 hn0) with h1 | h1
      · rw [h1] at e; cases e
      · exact h1 e.symm), Below.heap_alloc _ _ _ hlt]
end

/-- The lengths as values. -/
def refLens : Array Value := (i64s Hf.lens).toArray
set_option maxRecDepth 100000 in
theorem refLengths_any (w : World) : Calls Try.prog 88 #[] w fun e w' => ∃ A c, e = .returned (.slice A 257 c) ∧ w'.ownsRow w.heap.size 3 1 (.slice A 257 c) 257 (i64s Hf.lens) ∧ Below w.heap.size w w' := by
  go_enter Try.func88, Try.ntmps88
  refine wp_seq_k fun K1 hK1 => ?_
  refine wp_region_lit ?_
  refine wpList_closed rfl (v := .slice none 0 0) (w' := w) (by kernel_rfl) ?_
  refine wpList_nil ?_
  refine hK1 _ _ ?_
  clear hK1 K1
  refine wp_seq_k fun K2 hK2 => ?_
  refine wp_region_lit ?_
  refine wpList_closed rfl (v := .slice (some ⟨w.heap.size, 0, none⟩) 257 257) (w' := w.alloc (.cells refLens 3)) (by kernel_rfl) ?_
  refine wpList_closed rfl (v := .slice (some ⟨w.heap.size, 0, none⟩) 257 257) (w' := w.alloc (.cells refLens 3)) (by rfl) ?_
  refine wpList_nil ?_
  refine hK2 _ _ ?_
  clear hK2 K2
  have hown : (w.alloc (.cells refLens 3)).ownsRow w.heap.size 3 1 (.slice (some ⟨w.heap.size, 0, none⟩) 257 257) 257 (i64s Hf.lens) := World.ownsRow_lit (base := w.heap.size) (e := 3) (size := 1) w refLens 257 (Nat.le_refl _) (by unfold maxLen; omega) (by rw [refLens, List.size_toArray, i64s_length, Hf.lens_length])
  have hB : Below w.heap.size w (w.alloc (.cells refLens 3)) := (Below.refl _ _).alloc (Nat.le_refl _) _
  generalize w.alloc (.cells refLens 3) = w1 at *
  refine wp_ret ?_
  go_ret
  exact ⟨_, _, rfl, hown, hB⟩

section
variable {ops : Array Oper} {rest : List Oper} {o : Oper} {a : Act} {Q : Exit → Act → World → Prop}
/-- append(c.F, y): the element's box has just been laid; what follows stores the row's value. -/
theorem wpList_cpush {W : World} {b : Nat} {hv : Nat → Value} {rows : Nat → List Nat} (hT : Cb W b hv rows) (i : Nat) (hi : i < 3) (s x : Operand) (hgd : o.guard = none)
    (ho : o.op = .call { callee := .builtin .append, args := #[s, x], argTypes := #[137, 137] })
    (A : Option Addr) (n c y : Nat) (hA : hv i = .slice A n c) (hn : (rows i).length = n) (hs : a.eval s = .slice A n c) (hx : a.eval x = .slice (some ⟨W.heap.size, 0, none⟩) 1 1) (hm : n ≤ 1000)
    (h : ∀ A1 c1 w1, Cb (w1.setCell ⟨b, i, none⟩ (.slice A1 (n + 1) c1)) b (up hv i (.slice A1 (n + 1) c1)) (up rows i (rows i ++ [y])) → w1.cell? ⟨b, i, none⟩ = some (.slice A n c) → w1.frozen? ⟨b, i, none⟩ = false →
      (∀ B w0, Below B w0 W → B ≤ b → B ≤ W.heap.size → Below B w0 (w1.setCell ⟨b, i, none⟩ (.slice A1 (n + 1) c1))) → wpList Try.prog ops Q rest (a.put o.dst (.slice A1 (n + 1) c1)) w1) :
    wpList Try.prog ops Q (o :: rest) a (W.alloc (.cells #[.int .i64 (y : Int)] 3)) := by
  have hown := hT.own i hi
  have hlt := hT.lt
  rw [hn] at hown
  have hown' := hown
  rw [hA] at hown'
  refine wpList_push (b + 1) hgd s x 137 3 (.int .i64 0) 8 ho Try.underlying137 info_int rfl (.slice A n c) n (i64s (rows i)) (.int .i64 (y : Int)) hs hx rfl hown' (by omega) (by unfold maxLen; omega) (by omega) fun v1 w1 hown1 hg1 hat1 => ?_
  obtain ⟨A1, c1, rfl⟩ := own_slice hown1
  rw [← hA] at hg1 hat1
  have hp := hT.pushed i hi hg1
  have hT1 := hT.push i y hi (by rw [hn]; exact hown1) hg1 hat1
  refine h A1 c1 w1 hT1 ((World.cell?_of_block (a := ⟨b, i, none⟩) hp).trans ((hT.cell i hi).trans (congrArg some hA))) ((World.frozen?_of_block (a := ⟨b, i, none⟩) hp).trans (hT.thawed i)) fun B w0 hB hb hBw => ?_
  exact ((hB.alloc hBw _).grown hg1 (by simp; omega) (fun g hg => by have := (hown.lt g hg).1; omega)).setCell (by show B ≤ b; exact hb) _
end
end Go.Proofs.Ytmjibpjnhehnnaa

/-! The reference's codes, walked: the symbols in the document's order, their lengths and their codes. -/
namespace Go.Proofs.Ytmjibpjnhehnnaa
open Go.RowKit
attribute [local go_sem ↓] Go.wp_at_zero Go.wp_at_succ

def cr (l : List Nat) : Nat → List Nat
  | 0 => l
  | 1 => l.map Hf.len
  | _ => l.map Hf.code
theorem Cb.congr {w : World} {b : Nat} {hv : Nat → Value} {rows rows' : Nat → List Nat} (h : Cb w b hv rows) (he : ∀ i, i < 3 → rows i = rows' i) : Cb w b hv rows' :=
  ⟨h.blk, fun i hi => by rw [← he i hi]; exact h.own i hi, h.apart⟩
theorem cr_nil (i : Nat) : cr [] i = [] := by
  match i with
  | 0 => rfl
  | 1 => rfl
  | n + 2 => rfl
theorem cb_init0 (w : World) : Cb (w.alloc (.cells #[.slice none 0 0, .slice none 0 0, .slice none 0 0] 139)) w.heap.size (fun _ => .slice none 0 0) (fun _ => []) :=
  ⟨heap_alloc_new w _, fun _ _ => World.ownsRow_nil _ _ _ _, fun _ _ _ _ _ => .inl rfl⟩
theorem cb_init (w : World) : Cb (w.alloc (.cells #[.slice none 0 0, .slice none 0 0, .slice none 0 0] 139)) w.heap.size (fun _ => .slice none 0 0) (cr []) :=
  (cb_init0 w).congr fun i _ => (cr_nil i).symm
/-- The three rows, as whoever calls sees them. -/
def Cds (w : World) (v0 v1 v2 : Value) : Prop := ∃ (x0 x1 x2 : Addr) (c0 c1 c2 : Nat), v0 = .slice (some x0) 257 c0 ∧ v1 = .slice (some x1) 257 c1 ∧ v2 = .slice (some x2) 257 c2 ∧ ∀ k, k < 257 → w.cell? (x0.add k) = some (.int .i64 (Hf.ord.getD k 0 : Nat)) ∧ w.cell? (x1.add k) = some (.int .i64 (Hf.len (Hf.ord.getD k 0) : Nat)) ∧ w.cell? (x2.add k) = some (.int .i64 (Hf.code (Hf.ord.getD k 0) : Nat))
theorem cr_len (l : List Nat) (i : Nat) (hi : i < 3) : (cr l i).length = l.length := by
  match i, hi with
  | 0, _ => rfl
  | 1, _ => exact List.length_map ..
  | 2, _ => exact List.length_map ..
theorem cr_cell {w : World} {b : Nat} {hv : Nat → Value} (h : Cb w b hv (cr Hf.ord)) (i : Nat) (hi : i < 3) : ∃ (x : Addr) (c : Nat), hv i = .slice (some x) 257 c ∧ ∀ k, k < 257 → w.cell? (x.add k) = some (.int .i64 ((cr Hf.ord i).getD k 0 : Nat)) := by
  have h1 := h.own i hi
  have hl : (cr Hf.ord i).length = 257 := (cr_len Hf.ord i hi).trans Hf.ord_length
  rw [hl] at h1
  obtain ⟨A, c, hA⟩ := own_slice h1
  rw [hA] at h1
  obtain ⟨x, _, rfl, _, _⟩ := own_at h1 0 (by omega)
  refine ⟨x, c, hA, fun k hk => ?_⟩
  obtain ⟨y, u, hy, hu, hc⟩ := own_at h1 k hk
  injection hy with hy
  subst hy
  rw [i64s_at _ _ (by omega)] at hu
  injection hu with hu
  subst hu
  exact hc
theorem map_getD (f : Nat → Nat) (l : List Nat) (k : Nat) (h : k < l.length) : (l.map f).getD k 0 = f (l.getD k 0) := by
  simp [List.getD_eq_getElem?_getD, h]
theorem cds_of {w : World} {b : Nat} {hv : Nat → Value} (h : Cb w b hv (cr Hf.ord)) : Cds w (hv 0) (hv 1) (hv 2) := by
  obtain ⟨x0, c0, e0, h0⟩ := cr_cell h 0 (by omega)
  obtain ⟨x1, c1, e1, h1⟩ := cr_cell h 1 (by omega)
  obtain ⟨x2, c2, e2, h2⟩ := cr_cell h 2 (by omega)
  refine ⟨x0, x1, x2, c0, c1, c2, e0, e1, e2, fun k hk => ⟨h0 k hk, ?_, ?_⟩⟩
  · rw [h1 k hk, ← map_getD Hf.len _ _ (by rw [Hf.ord_length]; exact hk)]; rfl
  · rw [h2 k hk, ← map_getD Hf.code _ _ (by rw [Hf.ord_length]; exact hk)]; rfl
theorem cr_apart {w : World} {b : Nat} {hv : Nat → Value} (h : Cb w b hv (cr Hf.ord)) (i : Nat) (hi : i < 3) (x : Addr) (c : Nat) (he : hv i = .slice (some x) 257 c) : b < x.block := by
  have h1 := h.own i hi
  have hl : (cr Hf.ord i).length = 257 := (cr_len Hf.ord i hi).trans Hf.ord_length
  rw [hl] at h1
  obtain ⟨g, cap, hv', _, _⟩ := h1.form (by omega)
  have := (h1.lt g (by rw [hv']; rfl)).1
  rw [hv'] at he
  injection he with he
  injection he with he
  subst he
  show b < g
  omega
theorem cds_apart {w : World} {b r : Nat} {hv : Nat → Value} (h : Cb w b hv (cr Hf.ord)) (hr : r < b) : ∀ v, (v = hv 0 ∨ v = hv 1 ∨ v = hv 2) → ∀ x c, v = .slice (some x) 257 c → x.block ≠ r := by
  intro v hv' x c he e
  rcases hv' with rfl | rfl | rfl
  · have := cr_apart h 0 (by omega) x c he; omega
  · have := cr_apart h 1 (by omega) x c he; omega
  · have := cr_apart h 2 (by omega) x c he; omega
theorem cds_only {S : Nat → Prop} {w w' : World} {v0 v1 v2 : Value} (h : Cds w v0 v1 v2) (ho : Only S w w') (hS : ∀ v, (v = v0 ∨ v = v1 ∨ v = v2) → ∀ x c, v = .slice (some x) 257 c → ¬ S x.block) : Cds w' v0 v1 v2 := by
  obtain ⟨x0, x1, x2, c0, c1, c2, e0, e1, e2, hk⟩ := h
  refine ⟨x0, x1, x2, c0, c1, c2, e0, e1, e2, fun k h => ?_⟩
  obtain ⟨h0, h1, h2⟩ := hk k h
  exact ⟨ho.cell' h0 (by rw [add_block]; exact hS v0 (.inl rfl) x0 c0 e0), ho.cell' h1 (by rw [add_block]; exact hS v1 (.inr (.inl rfl)) x1 c1 e1), ho.cell' h2 (by rw [add_block]; exact hS v2 (.inr (.inr rfl)) x2 c2 e2)⟩
theorem lens_cells {w : World} {base : Nat} {A : Option Addr} {c : Nat} (h : w.ownsRow base 3 1 (.slice A 257 c) 257 (i64s Hf.lens)) : ∃ p : Addr, A = some p ∧ p.block < w.heap.size ∧ ∀ s, s < 257 → w.cell? (p.add s) = some (.int .i64 (Hf.len s : Nat)) := by
  obtain ⟨x, _, rfl, _, hc0⟩ := own_at h 0 (by omega)
  refine ⟨x, rfl, ?_, fun k hk => ?_⟩
  · have := World.block_lt_of_cell? w _ hc0
    rwa [add_block] at this
  · obtain ⟨y, u, hy, hu, hc⟩ := own_at h k hk
    injection hy with hy
    subst hy
    rw [i64s_at _ _ (by rw [Hf.lens_length]; exact hk)] at hu
    injection hu with hu
    subst hu
    exact hc

set_option maxRecDepth 100000 in
set_option maxHeartbeats 2000000 in
theorem refCodes_any (w : World) : Calls Try.prog 86 #[] w fun e w' => ∃ v0 v1 v2, e = .returned (.agg #[v0, v1, v2]) ∧ Cds w' v0 v1 v2 ∧ Below w.heap.size w w' := by
  go_enter Try.func86, Try.ntmps86
  go_wp2_with fail
  refine (refLengths_any _).mono ?_
  rintro e w1 ⟨A, c, rfl, hown, hb1⟩
  obtain ⟨p, rfl, hpb, hlens⟩ := lens_cells hown
  have HLENS := Lib.hid hlens
  clear hlens hown
  have hr0 : w1.heap[w.heap.size]? = some (.cells #[.slice none 0 0, .slice none 0 0, .slice none 0 0] 139 (0, 0)) := (hb1.block _ (by simp)).trans (heap_alloc_new w _)
  have hrl := heap_lt hr0
  have hbw : Below w.heap.size w w1 := ((Below.refl w.heap.size w).alloc (Nat.le_refl _) _).trans (hb1.mono (by simp))
  have hT0 := cb_init w1
  have hB0 : Below w1.heap.size w1 (w1.alloc (.cells #[.slice none 0 0, .slice none 0 0, .slice none 0 0] 139)) := (Below.refl _ _).alloc (Nat.le_refl _) _
  have HR0 := Lib.hid hr0
  generalize hr : w.heap.size = r at *
  clear hb1 hr0
  go_wp2
  generalize hb : w1.heap.size = b at *
  have HBE := Lib.hid hb
  clear hb
  go_loopw [3, 4, 5] (fun x y i wr => ∃ (n : Nat) (hv : Nat → Value), 1 ≤ n ∧ n ≤ 31 ∧ i = .int .i64 (n : Int) ∧ x = .int .i64 ((Hf.lastOf (Hf.ahead n 0)).1 : Nat) ∧ y = .int .i64 ((Hf.lastOf (Hf.ahead n 0)).2 : Nat) ∧ Cb wr b hv (cr (Hf.ahead n 0)) ∧ Below b w1 wr) (fun _ _ i _ => 31 - (intOf i).toNat)
  case atStart => exact ⟨1, _, by omega, by omega, rfl, (by rw [Hf.ahead_zero]; rfl), (by rw [Hf.ahead_zero]; rfl), (by rw [Hf.ahead_zero]; exact hT0), hB0⟩
  case round =>
    obtain ⟨n, hv, hn1, hn31, rfl, rfl, rfl, hT, hB⟩ := hrel
    by_cases hlt : n < 31
    · have hnI : (n : Int) ≤ 30 := by omega
      clear hT0 hB0
      generalize hlc : Hf.lastOf (Hf.ahead n 0) = lp
      have HLP := Lib.hid hlc
      clear hlc
      go_wp2
      go_loopw [3, 4, 6] (fun x y i wr => ∃ (s : Nat) (hv : Nat → Value), s ≤ 257 ∧ i = .int .i64 (s : Int) ∧ x = .int .i64 ((Hf.lastOf (Hf.ahead n s)).1 : Nat) ∧ y = .int .i64 ((Hf.lastOf (Hf.ahead n s)).2 : Nat) ∧ Cb wr b hv (cr (Hf.ahead n s)) ∧ Below b w1 wr) (fun _ _ i _ => 257 - (intOf i).toNat)
      case atStart => exact ⟨0, hv, by omega, rfl, (by rw [HLP.out]), (by rw [HLP.out]), hT, hB⟩
      case round =>
        clear hT hB
        obtain ⟨s, hv, hs, rfl, rfl, rfl, hT, hB⟩ := hrel
        by_cases hlts : s < 257
        · have hcs : _ = _ := (hB.cell (p := p.add s) (by rw [add_block]; have := HBE.out; omega)).trans (HLENS.out s hlts)
          have hsI : (s : Int) < 257 := by omega
          have hbl := hT.lt
          by_cases hln : Hf.len s = n
          · rw [hln] at hcs
            have hnx := Hf.code_next s hlts
            have htk := Hf.ahead_take s
            have hll := Hf.ahead_le n s (by omega) (by omega)
            have hlb := Hf.last_bd n s (by omega)
            have hcb := Hf.code_bd s hlts
            rw [hln] at hnx htk
            generalize Hf.ahead n s = L at *
            have HTK := Lib.hid htk
            have HLN := Lib.hid hln
            clear htk hln
            have hlast := Hf.lastOf_snoc L s
            rw [HLN.out] at hlast
            have HLAST := Lib.hid hlast
            clear hlast
            obtain ⟨lc, lw, hlp⟩ : ∃ lc lw, Hf.lastOf L = (lc, lw) := ⟨_, _, rfl⟩
            rw [hlp] at hnx hlb ⊢
            simp only at hnx hlb ⊢
            have hl0 : L = [] → lc = 0 := by
              intro e
              rw [e] at hlp
              have h2 : (0, 0) = (lc, lw) := hlp
              injection h2 with h2 _
              exact h2.symm
            clear hlp
            generalize hcse : Hf.code s = cs at *
            have HCS := Lib.hid hcse
            clear hcse
            have hl1 : (cr L 1).length = L.length := by show (L.map Hf.len).length = _; rw [List.length_map]
            have hl2 : (cr L 2).length = L.length := by show (L.map Hf.code).length = _; rw [List.length_map]
            have HCL := Lib.hid hl1
            have HCL2 := Lib.hid hl2
            obtain ⟨A0, c0, hA0⟩ := own_slice (hT.own 0 (by omega))
            obtain ⟨A1, c1, hA1⟩ := own_slice (hT.own 1 (by omega))
            obtain ⟨A2, c2, hA2⟩ := own_slice (hT.own 2 (by omega))
            rw [hl1] at hA1
            rw [hl2] at hA2
            have hA0 : hv 0 = .slice A0 L.length c0 := hA0
            have hc0 := hT.cell 0 (by omega)
            rw [hA0] at hc0
            have HA0 := Lib.hid hA0
            have HA1 := Lib.hid hA1
            have HA2 := Lib.hid hA2
            clear hA0 hA1 hA2 hl1 hl2
            have HNX := Lib.hid hnx
            have HL0 := Lib.hid hl0
            clear hnx hl0
            have hlcI : (lc : Int) ≤ 1073741824 := by omega
            have hlwI : (lw : Int) ≤ 30 := by omega
            go_upto_if 27 with fail
            go_cut [3] (fun s3 wx => s3 = .int .i64 (cs : Int) ∧ wx = wr)
            case first =>
              by_cases he : L.length = 0
              · have he0 : L = [] := List.eq_nil_of_length_eq_zero he
                have h1 := HNX.out.1 he0
                have h2 := HL0.out he0
                subst h1
                subst h2
                have heI : ¬ (0 : Int) < (L.length : Int) := by omega
                clear he he0
                go_wp2
                go_meet
                exact ⟨rfl, rfl⟩
              · obtain ⟨h1, h2⟩ := HNX.out.2 (fun e => he (by rw [e]; rfl))
                have heI : (0 : Int) < (L.length : Int) := by omega
                clear he
                have H2 := Lib.hid h2
                clear h2
                have hw1 : IntKind.i64.wrap ((lc : Int) + 1) = ((lc + 1 : Nat) : Int) := IntWalk.i64_in _ (by omega)
                go_wp2
                go_loopw [3, 4] (fun x y wy => ∃ j : Nat, lw + j ≤ n ∧ y = .int .i64 ((lw + j : Nat) : Int) ∧ x = .int .i64 (((lc + 1) * 2 ^ j : Nat) : Int) ∧ wy = wr) (fun _ y _ => n - (intOf y).toNat)
                case atStart => exact ⟨0, by omega, rfl, by simp, rfl⟩
                case round =>
                  obtain ⟨j, hj, rfl, rfl, rfl⟩ := hrel
                  by_cases hlt3 : lw + j < n
                  · have hx : (lc + 1) * 2 ^ j ≤ cs := by
                      rw [H2.out]
                      exact Nat.mul_le_mul_left _ (Nat.pow_le_pow_right (by omega) (by omega))
                    have hsu : (lc + 1) * 2 ^ (j + 1) = 2 * ((lc + 1) * 2 ^ j) := by rw [Nat.pow_succ, ← Nat.mul_assoc, Nat.mul_comm]
                    have HSU := Lib.hid hsu
                    clear hsu
                    have hltI : ((lw + j : Nat) : Int) < (n : Int) := by omega
                    generalize (lc + 1) * 2 ^ j = x at *
                    have hxI : (x : Int) ≤ 1073741824 := by omega
                    have hq : ((lw + j : Nat) : Int) ≤ 31 := by omega
                    have hyy : lw + (j + 1) = lw + j + 1 := rfl
                    have HYY := Lib.hid hyy
                    clear hyy
                    generalize hy : lw + j = y at *
                    have HY := Lib.hid hy
                    clear hx hj hy
                    go_wp2
                    go_roundw
                    case measure => simp [intOf]; omega
                    case rel => exact ⟨j + 1, by rw [HYY.out]; omega, (by rw [HYY.out]; exact congrArg (Value.int .i64) (by omega)), (by rw [HSU.out]; exact congrArg (Value.int .i64) (by omega)), trivial⟩
                  · have hjj : j = n - lw := by omega
                    have hcs2 : (lc + 1) * 2 ^ j = cs := by rw [H2.out, hjj]
                    rw [hcs2]
                    have hltI : ¬ ((lw + j : Nat) : Int) < (n : Int) := by omega
                    clear hjj hcs2 hlt3
                    generalize lw + j = y at *
                    go_wp2
                    go_meet
                    exact ⟨rfl, rfl⟩
            case rest =>
              obtain ⟨rfl, rfl⟩ := hcut
              go_upto_region 19 with (at_builtin; go_must (refine wpList_cpush hT 0 (by omega) _ _ (by rfl) (by rfl) A0 L.length c0 s HA0.out (by rfl) (by rfl) (by rfl) (by omega) ?_; intro A3 c3 w2 hT1 hk1 hz1 hB1))
              have hB1 := hB1 _ _ hB (by omega) (by omega)
              generalize w2.setCell ⟨b, 0, none⟩ (.slice A3 (L.length + 1) c3) = wa at *
              clear hk1 hz1 hc0
              have hca := hT1.cell 1 (by omega)
              rw [up_ne _ _ (by omega), HA1.out] at hca
              have hba := hT1.lt
              go_upto_region 20 with (at_builtin; go_must (refine wpList_cpush hT1 1 (by omega) _ _ (by rfl) (by rfl) A1 L.length c1 n (by rw [up_ne _ _ (by omega)]; exact HA1.out) (by rw [up_ne _ _ (by omega)]; exact HCL.out) (by rfl) (by rfl) (by omega) ?_; intro A4 c4 w3 hT2 hk2 hz2 hB2))
              have hB2 := hB2 _ _ hB1 (by omega) (by omega)
              generalize w3.setCell ⟨b, 1, none⟩ (.slice A4 (L.length + 1) c4) = wb at *
              clear hk2 hz2 hca
              have hcb2 := hT2.cell 2 (by omega)
              rw [up_ne _ _ (by omega), up_ne _ _ (by omega), HA2.out] at hcb2
              have hbb := hT2.lt
              go_wp2_with (at_builtin; go_must (refine wpList_cpush hT2 2 (by omega) _ _ (by rfl) (by rfl) A2 L.length c2 cs (by rw [up_ne _ _ (by omega), up_ne _ _ (by omega)]; exact HA2.out) (by rw [up_ne _ _ (by omega), up_ne _ _ (by omega)]; exact HCL2.out) (by rfl) (by rfl) (by omega) ?_; intro A5 c5 w4 hT3 hk3 hz3 hB3))
              have hB3 := hB3 _ _ hB2 (by omega) (by omega)
              have hT4 := hT3.congr (rows' := cr (L ++ [s])) (fun i hi => by
                match i, hi with
                | 0, _ => rfl
                | 1, _ => show L.map Hf.len ++ [n] = (L ++ [s]).map Hf.len; rw [List.map_append, ← HLN.out]; rfl
                | 2, _ => show L.map Hf.code ++ [cs] = (L ++ [s]).map Hf.code; rw [List.map_append, ← HCS.out]; rfl)
              go_roundw
              case measure => simp [intOf]; omega
              case rel => exact ⟨s + 1, _, by omega, (by go_num), (by rw [HTK.out, HLAST.out]), (by rw [HTK.out, HLAST.out]), (by rw [HTK.out]; exact hT4), hB3⟩
          · have hne : (((Hf.len s : Nat) : Int) != (n : Int)) = true := by rw [bne_iff_ne]; omega
            have hsk := Hf.ahead_skip n s hln
            rw [← hsk] at hT
            obtain ⟨L, hL⟩ : ∃ L, Hf.ahead n (s + 1) = L := ⟨_, rfl⟩
            rw [← hsk, hL]
            rw [hL] at hT
            have HL := Lib.hid hL
            clear hsk hL hln
            generalize Hf.len s = q at *
            go_wp2
            go_roundw
            case measure => simp [intOf]; omega
            case rel => exact ⟨s + 1, hv, by omega, (by go_num), (by rw [HL.out]), (by rw [HL.out]), (by rw [HL.out]; exact hT), hB⟩
        · obtain rfl : s = 257 := by omega
          have hae := Hf.ahead_end n hlt
          rw [hae] at hT ⊢
          clear hae
          obtain ⟨L, hL⟩ : ∃ L, Hf.ahead (n + 1) 0 = L := ⟨_, rfl⟩
          rw [hL] at hT ⊢
          have HL := Lib.hid hL
          clear hL
          go_wp2
          go_roundw
          case measure => simp [intOf]; omega
          case rel => exact ⟨n + 1, hv, by omega, by omega, (by go_num), (by rw [HL.out]), (by rw [HL.out]), (by rw [HL.out]; exact hT), hB⟩
    · obtain rfl : n = 31 := by omega
      rw [Hf.ahead_all] at hT ⊢
      have hcd := cds_of hT
      have hne := cds_apart hT (show r < b by exact hrl)
      have hc0 := hT.cell 0 (by omega)
      have hc1 := hT.cell 1 (by omega)
      have hc2 := hT.cell 2 (by omega)
      have hrr : wr.heap[r]? = _ := (hB.block r hrl).trans HR0.out
      have hr0c : wr.cell? ⟨r, 0, none⟩ = some (.slice none 0 0) := by rw [cell_of_row wr r _ _ _ _ hrr]; rfl
      have hr1c : wr.cell? ⟨r, 1, none⟩ = some (.slice none 0 0) := by rw [cell_of_row wr r _ _ _ _ hrr]; rfl
      have hr2c : wr.cell? ⟨r, 2, none⟩ = some (.slice none 0 0) := by rw [cell_of_row wr r _ _ _ _ hrr]; rfl
      have hrf := fun i => frozen_of_row wr r i _ _ hrr
      have hr0f := hrf 0
      have hr1f := hrf 1
      have hr2f := hrf 2
      clear hrf
      obtain ⟨A0, c0, hA0⟩ := own_slice (hT.own 0 (by omega))
      obtain ⟨A1, c1, hA1⟩ := own_slice (hT.own 1 (by omega))
      obtain ⟨A2, c2, hA2⟩ := own_slice (hT.own 2 (by omega))
      have hl0 := (cr_len Hf.ord 0 (by omega)).trans Hf.ord_length
      have hl1 := (cr_len Hf.ord 1 (by omega)).trans Hf.ord_length
      have hl2 := (cr_len Hf.ord 2 (by omega)).trans Hf.ord_length
      rw [hl0] at hA0
      rw [hl1] at hA1
      rw [hl2] at hA2
      rw [hA0, hA1, hA2] at hcd hne
      rw [hA0] at hc0
      rw [hA1] at hc1
      rw [hA2] at hc2
      generalize Hf.lastOf Hf.ord = lp at *
      clear hA0 hA1 hA2 hT hrr hl0 hl1 hl2 hT0 hB0
      go_wp2
      have hbelow : Below w.heap.size w (((wr.setCell ⟨r, 0, none⟩ (.slice A0 257 c0)).setCell ⟨r, 1, none⟩ (.slice A1 257 c1)).setCell ⟨r, 2, none⟩ (.slice A2 257 c2)) := by
        rw [hr]
        exact (((hbw.trans (hB.mono (by omega))).setCell (Nat.le_refl _) _).setCell (Nat.le_refl _) _).setCell (Nat.le_refl _) _
      have hcd2 := (((Only.refl (fun k => k = r) wr).setCell (p := ⟨r, 0, none⟩) (.inr rfl) (.slice A0 257 c0)).setCell (p := ⟨r, 1, none⟩) (.inr rfl) (.slice A1 257 c1)).setCell (p := ⟨r, 2, none⟩) (.inr rfl) (.slice A2 257 c2)
      have hcd3 := cds_only hcd hcd2 hne
      refine bodyPost_ret (v := .agg #[.slice A0 257 c0, .slice A1 257 c1, .slice A2 257 c2]) ?_ rfl ⟨_, _, _, rfl, hcd3, hbelow⟩
      simp [results, Try.results86, go_sem, hr0c, hr1c, hr2c]
end Go.Proofs.Ytmjibpjnhehnnaa

/-! The reference's place and bits, walked. -/
namespace Go.Proofs.Ytmjibpjnhehnnaa
open Go.RowKit
attribute [local go_sem ↓] Go.wp_at_zero Go.wp_at_succ

theorem cds_below {w w' : World} {v0 v1 v2 : Value} (h : Cds w v0 v1 v2) (hb : Below w.heap.size w w') : Cds w' v0 v1 v2 :=
  cds_only h (Only.of_below (fun _ => False) hb) (fun _ _ _ _ _ h => h)
theorem idx_here (s i : Nat) (hi : i < 257) (h : Hf.ord.getD i 0 = s) : Hf.ord.idxOf s = i := by
  rw [← h]
  exact Hf.place_inj i hi

set_option maxRecDepth 100000 in
theorem place_any (w : World) (v0 v1 v2 : Value) (s : Nat) (hs : s < 257) (hc : Cds w v0 v1 v2) :
    Calls Try.prog 87 #[.agg #[v0, v1, v2], .int .i64 (s : Int)] w fun e w' => e = .returned (.int .i64 (Hf.ord.idxOf s : Nat)) ∧ Below w.heap.size w w' := by
  have hB : Below w.heap.size w (w.alloc (.cells #[v0, v1, v2] 139)) := (Below.refl _ _).alloc (Nat.le_refl _) _
  have hc := cds_below hc hB
  obtain ⟨x0, x1, x2, c0, c1, c2, rfl, rfl, rfl, hk⟩ := hc
  have HK := Lib.hid hk
  have HP := Lib.hid (Hf.place_at s hs)
  clear hk
  have hl := HP.out.1
  go_enter Try.func87, Try.ntmps87
  go_wp2
  go_loop [5] (fun i => ∃ k : Nat, k ≤ Hf.ord.idxOf s ∧ i = .int .i64 (k : Int)) (fun i => 257 - (intOf i).toNat)
  case atStart => exact ⟨0, Nat.zero_le _, rfl⟩
  case round =>
    obtain ⟨k, hk, rfl⟩ := hrel
    have hkI : (k : Int) < 257 := by omega
    have hcell := (HK.out k (by omega)).1
    by_cases he : Hf.ord.getD k 0 = s
    · have hi := idx_here s k (by omega) he
      rw [he] at hcell
      have HI := Lib.hid hi
      clear hi he hk hl
      go_wp2
      go_ret
      rw [HI.out]
      exact ⟨rfl, hB⟩
    · have hne : (((Hf.ord.getD k 0 : Nat) : Int) == (s : Int)) = false := by rw [beq_eq_false_iff_ne]; omega
      have hlt : k < Hf.ord.idxOf s := by
        rcases Nat.lt_or_ge k (Hf.ord.idxOf s) with h | h
        · exact h
        · exact absurd (by rw [show k = Hf.ord.idxOf s from by omega]; exact HP.out.2) he
      clear he hk
      generalize Hf.ord.getD k 0 = q at *
      go_wp2
      go_round
      case rel => exact ⟨k + 1, by omega, by go_num⟩
      case measure => simp [intOf]; omega

theorem bitsN_at (m v j : Nat) (h : j < m) : (Hf.bitsN m v)[j]? = some (v / 2 ^ (m - 1 - j) % 2) := by
  induction m generalizing j with
  | zero => omega
  | succ m ih =>
    rw [Hf.bitsN_cons]
    cases j with
    | zero => simp
    | succ j =>
      rw [List.getElem?_cons_succ, ih j (by omega), show m + 1 - 1 - (j + 1) = m - 1 - j from by omega]
theorem byte_take {l : List Nat} (h : Hf.Byte l) (i : Nat) : Hf.Byte (l.take i) := fun x hx => h x (List.mem_of_mem_take hx)

set_option maxRecDepth 100000 in
set_option maxHeartbeats 2000000 in
theorem refBits_any (s : ByteArray) (w : World) (hs : s.size ≤ 1099511627776) :
    Calls Try.prog 83 #[.string s] w fun e w' => ∃ A c, e = .returned (.slice A (Hf.encBits (nats s)).length c) ∧ w'.ownsRow w.heap.size 5 1 (.slice A (Hf.encBits (nats s)).length c) (Hf.encBits (nats s)).length (u8s (Hf.encBits (nats s))) ∧ Below w.heap.size w w' := by
  go_enter Try.func83, Try.ntmps83
  go_wp2_with fail
  refine (refCodes_any _).mono ?_
  rintro e w1 ⟨v0, v1, v2, rfl, hcd, hb1⟩
  have hcd0 := hcd
  obtain ⟨x0, x1, x2, c0, c1, c2, rfl, rfl, rfl, hk⟩ := hcd
  have hx2b : x2.block < w1.heap.size := by
    have := World.block_lt_of_cell? w1 _ (hk 0 (by omega)).2.2
    rwa [add_block] at this
  have hx1b : x1.block < w1.heap.size := by
    have := World.block_lt_of_cell? w1 _ (hk 0 (by omega)).2.1
    rwa [add_block] at this
  go_wp2
  have hB0 : Below w1.heap.size w1 (w1.alloc (.cells #[.slice (some x0) 257 c0, .slice (some x1) 257 c1, .slice (some x2) 257 c2] 139)) := (Below.refl _ _).alloc (Nat.le_refl _) _
  have hcd1 := cds_below hcd0 hB0
  have hbl0 := heap_alloc_new w1 (.cells #[.slice (some x0) 257 c0, .slice (some x1) 257 c1, .slice (some x2) 257 c2] 139)
  have hsz0 : (w1.alloc (.cells #[.slice (some x0) 257 c0, .slice (some x1) 257 c1, .slice (some x2) 257 c2] 139)).heap.size = w1.heap.size + 1 := by simp
  have HSZ := Lib.hid hsz0
  clear hk hcd0 hsz0
  generalize w1.alloc (.cells #[.slice (some x0) 257 c0, .slice (some x1) 257 c1, .slice (some x2) 257 c2] 139) = w2 at *
  have hbw : w.heap.size ≤ w1.heap.size := hb1.size
  have hB2 : Below w.heap.size w w2 := hb1.trans (hB0.mono hbw)
  generalize hb : w1.heap.size = b at *
  have HBL := Lib.hid hbl0
  clear hb hb1 hB0 hbl0
  go_loopw [4, 5] (fun o i wr => ∃ (k : Nat), k ≤ s.size ∧ i = .int .i64 (k : Int) ∧ wr.ownsRow (b + 1) 5 1 o (Hf.encBits ((nats s).take k)).length (u8s (Hf.encBits ((nats s).take k))) ∧ Below (b + 1) w2 wr) (fun _ i _ => s.size - (intOf i).toNat)
  case atStart => exact ⟨0, Nat.zero_le _, rfl, World.ownsRow_nil _ _ _ _, Below.refl _ _⟩
  case round =>
    obtain ⟨k, hk, rfl, hown, hB⟩ := hrel
    obtain ⟨A, c, rfl⟩ := own_slice hown
    by_cases hlt : k < s.size
    · have hix := run_index_nat Try.prog 9 Try.underlying9 s k hlt
      have hx0 : (nats s).getD k 0 < 256 := by
        rw [List.getD_eq_getElem?_getD, List.getElem?_eq_getElem (by rw [nats_length]; exact hlt)]
        exact nats_byte s _ (List.getElem_mem _)
      have htake := encBits_take (nats s) k (by rw [nats_length]; exact hlt)
      have hlen := Hf.encBits_le _ (byte_take (nats_byte s) k)
      have hlen2 : ((nats s).take k).length ≤ k := List.length_take_le _ _
      generalize (nats s).getD k 0 = x at *
      have HTK := Lib.hid htake
      clear htake
      generalize Hf.encBits ((nats s).take k) = out at *
      have hlen3 : out.length ≤ 30 * k := by omega
      clear hlen hlen2
      have hblk : wr.heap[b]? = _ := (hB.block b (by omega)).trans HBL.out
      have hq0 : wr.cell? ⟨b, 0, none⟩ = some (.slice (some x0) 257 c0) := by rw [cell_of_row wr b _ _ _ _ hblk]; rfl
      have hq1 : wr.cell? ⟨b, 1, none⟩ = some (.slice (some x1) 257 c1) := by rw [cell_of_row wr b _ _ _ _ hblk]; rfl
      have hq2 : wr.cell? ⟨b, 2, none⟩ = some (.slice (some x2) 257 c2) := by rw [cell_of_row wr b _ _ _ _ hblk]; rfl
      have hcdr : Cds wr (.slice (some x0) 257 c0) (.slice (some x1) 257 c1) (.slice (some x2) 257 c2) := cds_below hcd1 (hB.mono (by have := HSZ.out; omega))
      have hwx : IntKind.i64.wrap (x : Int) = (x : Int) := IntWalk.i64_in _ (by omega)
      have HBK := Lib.hid hblk
      have hbs : b < wr.heap.size := heap_lt hblk
      have hkI : (k : Int) < (s.size : Int) := by omega
      have hbz : b + 1 ≤ wr.heap.size := hbs
      clear hblk
      go_upto_region 7 with fail
      go_still_tail 5, (by kernel_rfl)
      have hBd : Below (b + 1) w2 wr.drew := hB.drew
      have hownd := hown.drew
      have hcdd : Cds wr.drew (.slice (some x0) 257 c0) (.slice (some x1) 257 c1) (.slice (some x2) 257 c2) := hcdr
      have HBKd : Hid (wr.drew.heap[b]? = some (.cells #[.slice (some x0) 257 c0, .slice (some x1) 257 c1, .slice (some x2) 257 c2] 139 (0, 0))) := HBK
      have hbzd : b + 1 ≤ wr.drew.heap.size := hbz
      change wpList _ _ _ _ _ wr.drew
      generalize wr.drew = wd at *
      clear hB hown hcdr HBK hbz hq0 hq1 hq2 hbs
      go_wp2_with fail
      refine (place_any _ _ _ _ x (by omega) hcdd).mono ?_
      rintro e w3 ⟨rfl, hb3⟩
      have hK := Hf.place_at x (by omega)
      have hlx := Hf.len_bd x (by omega)
      have hcx := Hf.code_bd x (by omega)
      have hB3 : Below (b + 1) w2 w3 := hBd.trans (hb3.mono hbzd)
      have hown3 : w3.ownsRow (b + 1) 5 1 (.slice A out.length c) out.length (u8s out) := hownd.kept ⟨hb3.os, hb3.tape, hb3.output, hb3.size, fun i hi _ => hb3.block i hi⟩ (row := none) (by
        cases h : (Value.slice A out.length c).ownBlock with
        | none => exact .inl rfl
        | some k => exact .inr (by simp))
      obtain ⟨y0, y1, y2, d0, d1, d2, e0, e1, e2, hk3⟩ := hcd1
      injection e0 with e0 e0' e0''
      injection e0 with e0
      injection e1 with e1 e1' e1''
      injection e1 with e1
      injection e2 with e2 e2' e2''
      injection e2 with e2
      subst e0; subst e1; subst e2
      obtain ⟨_, hk1, hk2⟩ := hk3 _ hK.1
      rw [hK.2] at hk1 hk2
      have hKI : ((Hf.ord.idxOf x : Nat) : Int) < 257 := by have := hK.1; omega
      have hcb : Hf.codeBits x = Hf.bitsN (Hf.len x) (Hf.code x) := rfl
      rw [hcb] at HTK
      clear e0' e0'' e1' e1'' e2' e2'' hK hk3 hB2 hcb hBd hownd hcdd HBKd hbzd hb3 hix
      generalize Hf.ord.idxOf x = K at *
      generalize Hf.len x = L at *
      generalize Hf.code x = cs at *
      have HK1 := Lib.hid hk1
      have HK2 := Lib.hid hk2
      have hq1 : w3.cell? ⟨b, 1, none⟩ = some (.slice (some x1) 257 c1) := by rw [cell_of_row w3 b _ _ _ _ ((hB3.block b (by omega)).trans HBL.out)]; rfl
      have hc1 := (hB3.cell (p := x1.add K) (by rw [add_block]; omega)).trans hk1
      have hLI1 : (5 : Int) ≤ (L : Int) := by omega
      have hLI2 : (L : Int) ≤ 30 := by omega
      have hw1 : IntKind.i64.wrap ((L : Int) - 1) = (L : Int) - 1 := IntWalk.i64_in _ (by omega)
      have HLX := Lib.hid hlx
      have HCX := Lib.hid hcx
      have HL3 := Lib.hid hlen3
      have HLT := Lib.hid hlt
      have HHS := Lib.hid hs
      clear hlx hcx hlen3 hlt hs hk1 hk2
      go_wp2
      clear hq1 hc1 hw1
      go_loopw [4, 7] (fun o n wr => ∃ (j : Nat), j ≤ L ∧ n = .int .i64 ((L : Int) - 1 - (j : Int)) ∧ wr.ownsRow (b + 1) 5 1 o (out ++ (Hf.bitsN L cs).take j).length (u8s (out ++ (Hf.bitsN L cs).take j)) ∧ Below (b + 1) w2 wr) (fun _ n _ => (intOf n + 1).toNat)
      case atStart => exact ⟨0, Nat.zero_le _, by simp, (by rw [List.take_zero, List.append_nil]; exact hown3), hB3⟩
      case round =>
        clear hown3 hB3
        obtain ⟨j, hj, rfl, hown, hB⟩ := hrel
        obtain ⟨A, c, rfl⟩ := own_slice hown
        by_cases hjL : j < L
        · have hq2 : wr.cell? ⟨b, 2, none⟩ = some (.slice (some x2) 257 c2) := by rw [cell_of_row wr b _ _ _ _ ((hB.block b (by omega)).trans HBL.out)]; rfl
          have hbz : b + 1 ≤ wr.heap.size := heap_lt ((hB.block b (by omega)).trans HBL.out)
          have hc2 := (hB.cell (p := x2.add K) (by rw [add_block]; omega)).trans HK2.out
          have hbat := bitsN_at L cs j hjL
          have htk : out ++ (Hf.bitsN L cs).take (j + 1) = (out ++ (Hf.bitsN L cs).take j) ++ [cs / 2 ^ (L - 1 - j) % 2] := by rw [List.take_add_one, hbat, List.append_assoc]; rfl
          have HT := Lib.hid htk
          have hlo : (out ++ (Hf.bitsN L cs).take j).length ≤ 30 * k + 30 := by
            have := List.length_take_le j (Hf.bitsN L cs)
            rw [List.length_append]
            have := HL3.out
            omega
          have HLO := Lib.hid hlo
          clear hbat htk hlo
          generalize out ++ (Hf.bitsN L cs).take j = o2 at *
          have he : (L : Int) - 1 - (j : Int) = ((L - 1 - j : Nat) : Int) := by omega
          rw [he]
          have hdj : L - 1 - j < 30 := by have := HLX.out; omega
          have HJ := Lib.hid hjL
          have HE := Lib.hid he
          clear he hjL
          generalize hd : L - 1 - j = d at *
          have HD := Lib.hid hd
          clear hd
          have hdI : (d : Int) ≤ 30 := by omega
          go_wp2
          go_loop [8, 9] (fun x m => ∃ q : Nat, q ≤ d ∧ m = .int .i64 (q : Int) ∧ x = .int .i64 ((cs / 2 ^ q : Nat) : Int)) (fun _ m => d - (intOf m).toNat)
          case atStart => exact ⟨0, Nat.zero_le _, rfl, by simp⟩
          case round =>
            obtain ⟨q, hq, rfl, rfl⟩ := hrel
            have hle : cs / 2 ^ q ≤ cs := Nat.div_le_self _ _
            have hdv : cs / 2 ^ (q + 1) = cs / 2 ^ q / 2 := by rw [Nat.pow_succ, Nat.div_div_eq_div_mul]
            by_cases hlt : q < d
            · have HDV := Lib.hid hdv
              have hltI : (q : Int) < (d : Int) := by omega
              have HQ := Lib.hid hlt
              clear hdv hlt hq
              generalize cs / 2 ^ q = z at *
              have hz : IntKind.i64.wrap ((z : Int) / 2) = ((z / 2 : Nat) : Int) := IntWalk.i64_in _ (by have := HCX.out; omega)
              have hzI : (z : Int) ≤ 1073741824 := by have := HCX.out; omega
              clear hle
              go_wp2
              go_round
              case rel => exact ⟨q + 1, by have := HQ.out; omega, by go_num, by rw [HDV.out]; first | rfl | go_num⟩
              case measure => have := HQ.out; simp [intOf]; omega
            · obtain rfl : q = d := by omega
              clear hdv hlt hq
              generalize hz : cs / 2 ^ q = z at *
              have HZ := Lib.hid hz
              clear hz
              have hzI : (z : Int) ≤ 1073741824 := by have := HCX.out; omega
              clear hle
              have hm1 : (z : Int) % 2 = ((z % 2 : Nat) : Int) := by omega
              have hm2 : (z : Int).tmod 2 = ((z % 2 : Nat) : Int) := by rw [Int.tmod_eq_emod_of_nonneg (by omega)]; rfl
              have hm3 : ((z % 2 : Nat) : Int) % 256 = ((z % 2 : Nat) : Int) := by omega
              have hbt : z % 2 < 2 := Nat.mod_lt _ (by omega)
              generalize hbb : z % 2 = bt at *
              have HBB := Lib.hid hbb
              have HBT := Lib.hid hbt
              have HM := Lib.hid hm1
              have HLO2 := HLO
              clear hbb hbt
              go_wp2_with (at_builtin; go_must (refine wpList_push (b + 1) (by rfl) _ _ 67 5 _ 1 (by rfl) Try.underlying67 info_u8 rfl (.slice A o2.length c) o2.length (u8s o2) (.int .u8 (bt : Int)) (by rfl) (by rfl) rfl (by exact hown) (by exact hbz) (by have := HLO.out; have := HLT.out; have := HHS.out; unfold maxLen; omega) (by have := HLO.out; have := HLT.out; have := HHS.out; omega) ?_; intro v5 w5 hown5 hg5 hat5))
              obtain ⟨A5, c5, rfl⟩ := own_slice hown5
              have hB5 : Below (b + 1) w2 w5 := (hB.alloc (by have := HSZ.out; omega) _).grown hg5 (by simp; omega) (fun g hg => (hown.lt g hg).1)
              have hfin : o2 ++ [bt] = out ++ (Hf.bitsN L cs).take (j + 1) := by rw [HT.out, ← HBB.out, ← HZ.out]
              have hown6 : w5.ownsRow (b + 1) 5 1 (.slice A5 (o2.length + 1) c5) (o2 ++ [bt]).length (u8s (o2 ++ [bt])) := by
                rw [u8s_append, List.length_append]; exact hown5
              go_roundw
              case measure => have := HJ.out; simp [intOf] <;> omega
              case rel => exact ⟨j + 1, by have := HJ.out; omega, (congrArg (Value.int .i64) (by have := HE.out; omega)), (by rw [← hfin]; exact hown6), hB5⟩
        · obtain rfl : j = L := by omega
          have he : (j : Int) - 1 - (j : Int) = -1 := by omega
          rw [he]
          have hfin : out ++ (Hf.bitsN j cs).take j = Hf.encBits ((nats s).take (k + 1)) := by
            rw [HTK.out, List.take_of_length_le (by rw [Hf.bitsN_length]; omega)]
          rw [hfin] at hown ⊢
          clear he hfin
          have hkB : (k : Int) ≤ 1099511627776 := by have := HLT.out; have := HHS.out; omega
          go_wp2
          go_roundw
          case measure => have := HLT.out; simp [intOf]; omega
          case rel => exact ⟨k + 1, by have := HLT.out; omega, by go_num, hown, hB⟩
    · obtain rfl : k = s.size := by omega
      have hfull : (nats s).take s.size = nats s := List.take_of_length_le (by rw [nats_length]; omega)
      rw [hfull] at hown ⊢
      clear hfull
      have hownF := own_mono hown (show w.heap.size ≤ b + 1 by omega)
      have hBF : Below w.heap.size w wr := hB2.trans (hB.mono (by omega))
      clear hown
      go_wp2
      go_ret
      exact ⟨A, c, rfl, hownF, hBF⟩
end Go.Proofs.Ytmjibpjnhehnnaa

/-! The reference's Encode, walked: it codes as the plain law does. -/
namespace Go.Proofs.Ytmjibpjnhehnnaa
open Go.RowKit
attribute [local go_sem ↓] Go.wp_at_zero Go.wp_at_succ

def slen : Value → Nat
  | .slice _ n _ => n
  | _ => 0
theorem pack_at (l : List Nat) (k : Nat) (h : 8 * k + 8 ≤ l.length) : (Hf.pack l)[k]? = some (Hf.val ((l.drop (8 * k)).take 8)) := by
  induction k generalizing l with
  | zero => rw [Hf.pack_long (by omega)]; rfl
  | succ k ih =>
    rw [Hf.pack_long (by omega), List.getElem?_cons_succ, ih (l.drop 8) (by rw [List.length_drop]; omega), List.drop_drop, show 8 + 8 * k = 8 * (k + 1) from by omega]
theorem pack_take (l : List Nat) (k : Nat) (h : 8 * k + 8 ≤ l.length) : (Hf.pack l).take (k + 1) = (Hf.pack l).take k ++ [Hf.val ((l.drop (8 * k)).take 8)] := by
  rw [List.take_add_one, pack_at l k h]; rfl
theorem val_take (l : List Nat) (i m : Nat) (h : i + m < l.length) : Hf.val ((l.drop i).take (m + 1)) = 2 * Hf.val ((l.drop i).take m) + l.getD (i + m) 0 := by
  have h2 : (l.drop i)[m]? = some (l.getD (i + m) 0) := by rw [List.getElem?_drop, List.getD_eq_getElem?_getD, List.getElem?_eq_getElem h]; rfl
  rw [List.take_add_one, h2]
  exact Hf.val_snoc _ _
theorem u8s_at (l : List Nat) (i : Nat) (h : i < l.length) : (u8s l)[i]? = some (.int .u8 (l.getD i 0 : Nat)) := by
  simp [u8s, h]
theorem getD_bit {l : List Nat} (hb : Hf.Bits l) (i : Nat) : l.getD i 0 < 2 := by
  rw [List.getD_eq_getElem?_getD]
  cases h : l[i]? with
  | none => simp
  | some x => exact hb x (List.mem_of_getElem? h)

set_option maxRecDepth 100000 in
set_option maxHeartbeats 2000000 in
theorem refEncode_any (s : ByteArray) (w : World) (hs : s.size ≤ 1099511627776) :
    Calls Try.prog 74 #[.string s] w fun e w' => e = .returned (.string (strN (Hf.enc (nats s)))) ∧ Below w.heap.size w w' := by
  have hle := Hf.encBits_le _ (nats_byte s)
  rw [nats_length] at hle
  have hbits := Hf.encBits_bits (nats s)
  have henc : Hf.enc (nats s) = Hf.pack (Hf.encBits (nats s) ++ List.replicate (Hf.pad (Hf.encBits (nats s)).length) 1) := rfl
  have HENC := Lib.hid henc
  have hrb := refBits_any s w hs
  generalize hE : Hf.encBits (nats s) = E at *
  have HEE := Lib.hid hE
  clear hE henc
  have HRB := Lib.hid hrb
  have HLE := Lib.hid hle
  have HBT := Lib.hid hbits
  have HHS := Lib.hid hs
  clear hrb hle hbits hs
  go_enter Try.func74, Try.ntmps74
  go_wp2_with fail
  refine HRB.out.mono ?_
  rintro e w1 ⟨A, c, rfl, hown, hb1⟩
  have hpl := Hf.pad_lt E.length
  have hpa := Hf.pad_all E.length
  generalize hp : Hf.pad E.length = p at *
  have HP := Lib.hid hp
  have HPA := Lib.hid hpa
  clear hp hpa
  go_wp2
  go_loopw [3] (fun o wr => ∃ d : Nat, d ≤ p ∧ wr.ownsRow w.heap.size 5 1 o (E ++ List.replicate d 1).length (u8s (E ++ List.replicate d 1)) ∧ Below w.heap.size w wr) (fun o _ => E.length + p - slen o)
  case atStart => exact ⟨0, Nat.zero_le _, (by rw [List.replicate_zero, List.append_nil]; exact hown), hb1⟩
  case round =>
    clear hown hb1
    obtain ⟨d, hd, hown, hB⟩ := hrel
    have hlen : (E ++ List.replicate d 1).length = E.length + d := by rw [List.length_append, List.length_replicate]
    rw [hlen] at hown
    obtain ⟨A, c, rfl⟩ := own_slice hown
    by_cases hlt : d < p
    · have hne : (((E.length + d : Nat) : Int) % 8 != 0) = true := by rw [bne_iff_ne]; have := HPA.out; omega
      have hne2 : ((((E.length + d : Nat) : Int)).tmod 8 != 0) = true := by rw [Int.tmod_eq_emod_of_nonneg (by omega)]; exact hne
      have hrep : E ++ List.replicate (d + 1) 1 = (E ++ List.replicate d 1) ++ [1] := by rw [List.replicate_succ', List.append_assoc]
      have HREP := Lib.hid hrep
      have HLEN := Lib.hid hlen
      have hbz := hB.size
      clear hrep hlen
      generalize E ++ List.replicate d 1 = o2 at *
      generalize hn : E.length + d = n at *
      have HN := Lib.hid hn
      clear hn
      go_wp2_with (at_builtin; go_must (refine wpList_push w.heap.size (by rfl) _ _ 67 5 _ 1 (by rfl) Try.underlying67 info_u8 rfl (.slice A n c) n (u8s o2) (.int .u8 1) (by rfl) (by rfl) rfl (by exact hown) (by exact hbz) (by have := HN.out; have := HLE.out; have := HHS.out; unfold maxLen; omega) (by have := HN.out; have := HLE.out; have := HHS.out; omega) ?_; intro v5 w5 hown5 hg5 hat5))
      obtain ⟨A5, c5, rfl⟩ := own_slice hown5
      have hB5 : Below w.heap.size w w5 := (hB.alloc hbz _).grown hg5 (by simp; omega) (fun g hg => (hown.lt g hg).1)
      have hown6 : w5.ownsRow w.heap.size 5 1 (.slice A5 (n + 1) c5) (o2 ++ [1]).length (u8s (o2 ++ [1])) := by
        rw [u8s_append, List.length_append, HLEN.out]; exact hown5
      go_roundw
      case measure => have := HN.out; simp [slen]; omega
      case rel => exact ⟨d + 1, by omega, (by rw [HREP.out]; exact hown6), hB5⟩
    · obtain rfl : d = p := by omega
      have heq : (((E.length + d : Nat) : Int) % 8 != 0) = false := by rw [bne_eq_false_iff_eq]; have := HPA.out; omega
      have heq2 : ((((E.length + d : Nat) : Int)).tmod 8 != 0) = false := by rw [Int.tmod_eq_emod_of_nonneg (by omega)]; exact heq
      have hbb : Hf.Bits (E ++ List.replicate d 1) := HBT.out.append (Hf.Bits.ones _)
      have henc := HENC.out
      have HENC2 := Lib.hid henc
      have hmod := HPA.out
      have hnle : E.length + d ≤ 30 * s.size + 8 := by have := HLE.out; omega
      clear henc HENC HRB
      generalize E ++ List.replicate d 1 = o2 at *
      generalize hn : E.length + d = n at *
      clear hn
      obtain ⟨q, hq⟩ : ∃ q, n = 8 * q := ⟨n / 8, by omega⟩
      have HQ := Lib.hid hq
      have HNLE := Lib.hid hnle
      have HLEN := Lib.hid hlen
      have HBB := Lib.hid hbb
      clear hq hnle hlen hmod hbb
      have hbz := hB.size
      have hcells := fun k hk => own_at hown k hk
      have HC := Lib.hid hcells
      clear hcells
      obtain ⟨wz, rfl⟩ : ∃ wz, wz = wr := ⟨wr, rfl⟩
      go_wp2
      go_loopw [4, 5] (fun o i wy => ∃ k : Nat, k ≤ q ∧ i = .int .i64 ((8 * k : Nat) : Int) ∧ wy.ownsRow wz.heap.size 5 1 o ((Hf.pack o2).take k).length (u8s ((Hf.pack o2).take k)) ∧ Below wz.heap.size wz wy) (fun _ i _ => 8 * q - (intOf i).toNat)
      case atStart => exact ⟨0, Nat.zero_le _, rfl, World.ownsRow_nil _ _ _ _, Below.refl _ _⟩
      case round =>
        obtain ⟨k, hk, rfl, hown2, hB2⟩ := hrel
        obtain ⟨A2, c2, rfl⟩ := own_slice hown2
        by_cases hlt2 : k < q
        · have hkn : 8 * k + 8 ≤ n := by have := HQ.out; omega
          have hpt := pack_take o2 k (by have := HLEN.out; omega)
          have hkI : ((8 * k : Nat) : Int) < (n : Int) := by omega
          have hpl2 : ((Hf.pack o2).take k).length ≤ k := List.length_take_le _ _
          have HPT := Lib.hid hpt
          have HPL := Lib.hid hpl2
          have HK := Lib.hid hlt2
          have HKN := Lib.hid hkn
          clear hpt hpl2 hlt2 hkn heq heq2 hk
          generalize (Hf.pack o2).take k = out at *
          generalize hi : 8 * k = i at *
          have HI := Lib.hid hi
          clear hi
          go_wp2
          go_loop [6, 7] (fun b m => ∃ j : Nat, j ≤ 8 ∧ m = .int .i64 (j : Int) ∧ b = .int .u8 (Hf.val ((o2.drop i).take j) : Nat)) (fun _ m => 8 - (intOf m).toNat)
          case atStart => exact ⟨0, by omega, rfl, rfl⟩
          case round =>
            obtain ⟨j, hj, rfl, rfl⟩ := hrel
            by_cases hj8 : j < 8
            · obtain ⟨x, u, rfl, hu, hc⟩ := HC.out (i + j) (by have := HKN.out; omega)
              rw [u8s_at _ _ (by have := HLEN.out; have := HKN.out; omega)] at hu
              injection hu with hu
              subst hu
              have hc2 := (hB2.cell (p := x.add (i + j)) (World.block_lt_of_cell? _ _ hc)).trans hc
              have hbit := getD_bit HBB.out (i + j)
              have hvt := val_take o2 i j (by have := HLEN.out; have := HKN.out; omega)
              have hvl := Hf.val_lt ((HBB.out.drop i).take j)
              have hvl2 : Hf.val ((o2.drop i).take j) < 128 := by
                have h1 : ((o2.drop i).take j).length ≤ 7 := by have := List.length_take_le j (o2.drop i); omega
                have h2 : 2 ^ ((o2.drop i).take j).length ≤ 2 ^ 7 := Nat.pow_le_pow_right (by omega) h1
                omega
              have HVT := Lib.hid hvt
              clear hvt hvl hc
              generalize o2.getD (i + j) 0 = bt at *
              generalize Hf.val ((o2.drop i).take j) = v at *
              have hij : IntKind.i64.wrap ((i : Int) + (j : Int)) = ((i + j : Nat) : Int) := by rw [IntWalk.i64_in _ (by have := HKN.out; have := HNLE.out; have := HHS.out; omega)]; omega
              have hiB : (i : Int) ≤ 35184372088832 := by have := HKN.out; have := HNLE.out; have := HHS.out; omega
              have hjI : (j : Int) < 8 := by omega
              have hm1 : (2 * (v : Int)) % 256 = ((2 * v : Nat) : Int) := by omega
              have hm2 : IntKind.u8.wrap (2 * (v : Int)) = ((2 * v : Nat) : Int) := by rw [IntWalk.u8_in _ (by omega)]; omega
              have hm3 : (((2 * v : Nat) : Int) + (bt : Int)) % 256 = ((2 * v + bt : Nat) : Int) := by omega
              have hm4 : IntKind.u8.wrap (((2 * v : Nat) : Int) + (bt : Int)) = ((2 * v + bt : Nat) : Int) := by rw [IntWalk.u8_in _ (by omega)]; omega
              have hnI : ((i + j : Nat) : Int) < (n : Int) := by have := HKN.out; omega
              go_wp2
              go_round
              case rel => exact ⟨j + 1, by omega, by go_num, by rw [HVT.out]; exact congrArg (Value.int .u8) (by omega)⟩
              case measure => simp [intOf] <;> omega
            · obtain rfl : j = 8 := by omega
              have HF := HPT.out
              rw [← HI.out] at HF
              rw [HI.out] at HF
              generalize hv : Hf.val ((o2.drop i).take 8) = v at *
              have hvb : v < 256 := by
                rw [← hv]
                have h1 : ((o2.drop i).take 8).length ≤ 8 := List.length_take_le _ _
                have h2 : 2 ^ ((o2.drop i).take 8).length ≤ 2 ^ 8 := Nat.pow_le_pow_right (by omega) h1
                have h3 := Hf.val_lt ((HBB.out.drop i).take 8)
                omega
              have HFF := Lib.hid HF
              clear HF hv
              have hbz2 := hB2.size
              have hiB : (i : Int) ≤ 35184372088832 := by have := HKN.out; have := HNLE.out; have := HHS.out; omega
              go_wp2_with (at_builtin; go_must (refine wpList_push wz.heap.size (by rfl) _ _ 67 5 _ 1 (by rfl) Try.underlying67 info_u8 rfl (.slice A2 out.length c2) out.length (u8s out) (.int .u8 (v : Int)) (by rfl) (by rfl) rfl (by exact hown2) (by exact hbz2) (by have := HPL.out; have := HKN.out; have := HNLE.out; have := HHS.out; have := HI.out; unfold maxLen; omega) (by have := HPL.out; have := HKN.out; have := HNLE.out; have := HHS.out; have := HI.out; omega) ?_; intro v5 w5 hown5 hg5 hat5))
              obtain ⟨A5, c5, rfl⟩ := own_slice hown5
              have hB5 : Below wz.heap.size wz w5 := (hB2.alloc hbz2 _).grown hg5 (by simp; omega) (fun g hg => (hown2.lt g hg).1)
              have hown6 : w5.ownsRow wz.heap.size 5 1 (.slice A5 (out.length + 1) c5) (out ++ [v]).length (u8s (out ++ [v])) := by
                rw [u8s_append, List.length_append]; exact hown5
              go_roundw
              case measure => have := HKN.out; have := HQ.out; have := HI.out; have := HK.out; simp [intOf] <;> omega
              case rel => exact ⟨k + 1, by have := HK.out; omega, (congrArg (Value.int .i64) (by have := HI.out; omega)), (by rw [HFF.out]; exact hown6), hB5⟩
        · obtain rfl : k = q := by omega
          have hkI : ¬ (((8 * k : Nat) : Int) < (n : Int)) := by have := HQ.out; omega
          have hall : (Hf.pack o2).take k = Hf.pack o2 := List.take_of_length_le (by rw [Hf.pack_length, HLEN.out, HQ.out]; omega)
          rw [hall, ← HENC2.out] at hown2
          rw [hall, ← HENC2.out]
          have htx := run_text hown2 (Hf.enc_byte _)
          have hBF : Below w.heap.size w wr := hB.trans (hB2.mono hbz)
          have HT := HENC2
          clear hall heq heq2 hlt2 hk hown2 hB2
          generalize hi : 8 * k = i at *
          clear hi
          go_wp2
          go_ret
          exact ⟨rfl, hBF⟩
end Go.Proofs.Ytmjibpjnhehnnaa

/-! The reference's Str, walked: it writes as the plain law does (as in XPn, without the reference's reading). -/
namespace Go.Proofs.Ytmjibpjnhehnnaa
open Go.RowKit
attribute [local go_sem ↓] Go.wp_at_zero Go.wp_at_succ

theorem refInt_at (h : Nat) (hh : h < 256) (hm : h % 128 = 0) (n : Nat) (hn : n ≤ 2147483647) (w : World) :
    Calls Try.prog 57 #[.int .u8 (h : Int), .int .i64 7, .int .i64 (n : Int)] w fun e w' => e = .returned (.tuple #[.string (strN (Pr.int h 128 n)), .int .i64 0]) ∧ Below w.heap.size w w' := by
  have := refInt_good h 7 n 128 w (by omega) (by omega) hh hn rfl
  rw [show Pr.wInt h 128 n = (Pr.int h 128 n, 0) from if_pos hm] at this
  exact this

set_option maxRecDepth 100000 in
set_option maxHeartbeats 2000000 in
theorem refStr_any (s : ByteArray) (w : World) (hs : s.size ≤ 2147483647) :
    Calls Try.prog 59 #[.string s] w fun e w' => e = .returned (.string (strN (Pr.str (nats s)))) ∧ Below w.heap.size w w' := by
  have henc : ∀ w, Calls Try.prog 74 #[.string s] w fun e w' => e = .returned (.string (encS s)) ∧ Below w.heap.size w w' := fun w => refEncode_any s w (by omega)
  have HENC := Lib.hid henc
  clear henc
  by_cases hlt : (encS s).size < s.size
  · have hstr : Pr.str (nats s) = Pr.int 128 128 (encS s).size ++ nats (encS s) := by
      unfold Pr.str
      rw [← encS_size, nats_length, if_pos hlt, nats_encS]
    rw [hstr, ← strN_append, strN_nats]
    have hI : ((encS s).size : Int) < (s.size : Int) := by omega
    have HINT := Lib.hid (refInt_at 128 (by omega) rfl (encS s).size (by omega))
    have hil := Pr.int_len 128 128 (encS s).size (by omega)
    have hadd := fun w => run_string_add_sum (P := Try.prog) w (strN (Pr.int 128 128 (encS s).size)) (encS s) (by rw [strN_size]; omega)
    clear hstr
    generalize strN (Pr.int 128 128 (encS s).size) = N at *
    generalize encS s = c at *
    have HS := Lib.hid hs
    clear hil hlt hs
    go_enter Try.func59, Try.ntmps59
    go_wp2_with fail
    refine (HENC.out _).mono ?_
    rintro en w2 ⟨rfl, hb2⟩
    go_wp2_with fail
    refine (HINT.out _).mono ?_
    rintro en w3 ⟨rfl, hb3⟩
    go_wp2
    go_ret
    exact ⟨rfl, bel2 hb2 hb3⟩
  · have hstr : Pr.str (nats s) = Pr.int 0 128 s.size ++ nats s := by
      unfold Pr.str
      rw [← encS_size, nats_length, if_neg hlt]
    rw [hstr, ← strN_append, strN_nats]
    have hI : ¬ ((encS s).size : Int) < (s.size : Int) := by omega
    have HINT := Lib.hid (refInt_at 0 (by omega) rfl s.size (by omega))
    have hil := Pr.int_len 0 128 s.size (by omega)
    have hadd := fun w => run_string_add_sum (P := Try.prog) w (strN (Pr.int 0 128 s.size)) s (by rw [strN_size]; omega)
    clear hstr
    generalize strN (Pr.int 0 128 s.size) = N at *
    generalize encS s = c at *
    have HS := Lib.hid hs
    clear hil hlt hs
    go_enter Try.func59, Try.ntmps59
    go_wp2_with fail
    refine (HENC.out _).mono ?_
    rintro en w1 ⟨rfl, hb1⟩
    go_wp2_with fail
    refine (HINT.out _).mono ?_
    rintro en w3 ⟨rfl, hb3⟩
    go_wp2
    go_ret
    exact ⟨rfl, bel2 hb1 hb3⟩
end Go.Proofs.Ytmjibpjnhehnnaa

/-! The reference's all, At, Find, walked. -/
namespace Go.Proofs.Ytmjibpjnhehnnaa
open Go.RowKit
attribute [local go_sem ↓] Go.wp_at_zero Go.wp_at_succ

def AllPost (w : World) (l : List Tk.Fd) (e : Ending) (w' : World) : Prop := ∃ A c, e = .returned (.slice A (61 + l.length) c) ∧ w'.ownsRow w.heap.size 57 2 (.slice A (61 + l.length) c) (61 + l.length) (fcells (Tk.all l)) ∧ Below w.heap.size w w'
theorem grown_undrew {w w' : World} {row : Option Nat} (h : w.drew.grownBy w' row) : w.grownBy w' row := ⟨h.os, h.tape, h.output, h.size, h.block⟩
set_option maxRecDepth 100000 in
set_option maxHeartbeats 1000000 in
theorem rall_any (w : World) (bx m : Nat) (g : Option Nat) (l : List Tk.Fd) (h : RTab w bx g m l) (hl : l.length ≤ 3000) :
    Calls Try.prog 73 #[.pointer (some ⟨bx, 0, none⟩)] w (AllPost w l) := by
  obtain ⟨v, hv, hb, hr⟩ := h
  obtain ⟨A, c, rfl⟩ := own_slice hr
  have hc1 : w.cell? ⟨bx, 1, none⟩ = some (.slice A l.length c) := cell_of_blk hb 1 _ rfl
  have HB := Lib.hid hb
  clear hb hv
  go_enter Try.func73, Try.ntmps73
  go_upto_region 1 with fail
  go_region_law (first | (go_simp; go_at_call 82; refine (rstatic_any _).mono ?_; rintro e w2 ⟨A2, c2, rfl, hown2d, hb2d⟩; have hb2 : Below w.heap.size w w2 := below_undrew hb2d; have hown2 : w2.ownsRow w.heap.size 57 2 (.slice A2 61 c2) 61 (fcells Tk.statics) := hown2d; have hr2 := own_only hr (Only.of_below (fun _ => False) hb2) (fun _ _ h => h); have hc2 : w2.cell? ⟨bx, 1, none⟩ = some (.slice A l.length c) := cell_of_blk ((hb2.block bx (heap_lt HB.out)).trans HB.out) 1 _ rfl) | (refine if_pos_wp (by rfl) ?_; go_must (refine wp_fields w.heap.size (bx + 1) _ _ (by rfl) (.slice A2 61 c2) (.slice A l.length c) 61 l.length Tk.statics l (by rfl) (by rfl) (by exact hown2) (by exact hr2) (by exact hb2.size) (by omega) ?_); intro v3 w3 hown3 hg3d hat3; obtain ⟨A3, c3, rfl⟩ := own_slice hown3; have hB3 : Below w.heap.size w w3 := hb2.grown (w' := w3) (row := (Value.slice A2 61 c2).ownBlock) ⟨hg3d.os, hg3d.tape, hg3d.output, hg3d.size, hg3d.block⟩ hb2.size (fun k hk => (hown2.lt k hk).1)))
  all_goals
    have hown3' : w3.ownsRow w.heap.size 57 2 (.slice A3 (61 + l.length) c3) (61 + l.length) (fcells (Tk.all l)) := hown3
    clear hown3 hc1 hc2 hr hr2
    go_wp2
    refine bodyPost_ret (v := .slice A3 (61 + l.length) c3) ?_ rfl ⟨A3, c3, rfl, hown3', hB3⟩
    simp [results, Try.results73, go_sem]
set_option maxRecDepth 100000 in
set_option maxHeartbeats 1000000 in
theorem rfind_any (w : World) (bx m : Nat) (g : Option Nat) (l : List Tk.Fd) (x y : ByteArray) (r : Nat × Bool) (h : RTab w bx g m l) (hr : Tk.find (x, y) (Tk.all l) 0 0 = r) (hl : l.length ≤ 3000) :
    Calls Try.prog 58 #[.pointer (some ⟨bx, 0, none⟩), .agg #[.string x, .string y]] w fun e w' => e = .returned (.tuple #[.int .i64 (r.1 : Int), .bool r.2]) ∧ Below w.heap.size w w' := by
  have hB : Below w.heap.size w (w.alloc (.cells #[.string x, .string y] 57)) := (Below.refl _ _).alloc (Nat.le_refl _) _
  have h1 := h.below hB
  have hfz := heap_alloc_new w (.cells #[.string x, .string y] 57)
  have hal := Tk.all_length l
  have HST := Lib.hid (fun i n (hk : i < (Tk.all l).length) => Tk.find_step (x, y) (Tk.all l) i n hk)
  have HEN := Lib.hid (fun i n (hk : (Tk.all l).length ≤ i) => Tk.find_end (x, y) (Tk.all l) i n hk)
  go_enter Try.func58, Try.ntmps58
  go_upto_region 1 with fail
  generalize w.alloc (.cells #[.string x, .string y] 57) = w1 at *
  generalize hBB : w.heap.size = B at *
  have HBB := Lib.hid hBB
  have HFZ := Lib.hid hfz
  clear hBB hfz h
  go_wp2_with fail
  refine (rall_any w1 bx m g l h1 hl).mono ?_
  rintro e w2 ⟨A, c, rfl, hown, hb2⟩
  have hfz2 : w2.heap[B]? = _ := (hb2.block B (heap_lt HFZ.out)).trans HFZ.out
  have hB2 : Below B w w2 := hB.trans (hb2.mono (Nat.le_of_lt (heap_lt HFZ.out)))
  have HFZ2 := Lib.hid hfz2
  have HAL := Lib.hid hal
  have HR : Hid (Tk.find (x, y) ((Tk.all l).drop 0) 0 0 = r) := hr
  clear hfz2 h1 hb2 hB hal hr
  generalize hn : 61 + l.length = n at *
  have hn4 : n ≤ 4000 := by omega
  have hn0 : 0 < n := by omega
  have hnI : (n : Int) ≤ 4000 := by omega
  generalize Tk.all l = al at *
  clear hn
  obtain ⟨gg, rfl, _, hgl, hcc⟩ := own_fields hown hn0
  have HCC := Lib.hid hcc
  have hBl := heap_lt HFZ2.out
  clear hcc hown
  go_wp2
  go_loopw [7, 8] (fun nm i wr => ∃ k named : Nat, k ≤ n ∧ named ≤ k ∧ i = .int .i64 (k : Int) ∧ nm = .int .i64 (named : Int) ∧ Tk.find (x, y) (al.drop k) k named = r ∧ ∃ nd, wr = w2.drewN nd) (fun _ i _ => n - (intOf i).toNat)
  case atStart => exact ⟨0, 0, Nat.zero_le _, Nat.le_refl _, rfl, rfl, HR.out, 0, rfl⟩
  case round =>
    obtain ⟨k, named, hk, hnk, rfl, rfl, hfd, nd, rfl⟩ := hrel
    by_cases hlt : k < n
    · have hkI : (k : Int) < (n : Int) := by omega
      rw [HST.out k named (by rw [HAL.out]; exact hlt)] at hfd
      obtain ⟨hq0, hq1⟩ := HCC.out k hlt
      obtain ⟨⟨gx, gy⟩, hg⟩ : ∃ p, al.getD k Tk.nil = p := ⟨_, rfl⟩
      rw [hg] at hq0 hq1 hfd
      have HFD := Lib.hid hfd
      clear hg hfd
      simp only at hq0 hq1
      have hc0 : w2.cell? ⟨B, 0, none⟩ = some (.string x) := cell_of_blk HFZ2.out 0 _ rfl
      have hc1 : w2.cell? ⟨B, 1, none⟩ = some (.string y) := cell_of_blk HFZ2.out 1 _ rfl
      go_upto_region 6 with fail
      by_cases hx : gx = x
      · subst hx
        by_cases hy : gy = y
        · subst hy
          have hr := HFD.out
          rw [if_pos rfl] at hr
          subst hr
          go_quiet (fail)
          go_wp2
          go_ret2
          exact ⟨rfl, by rw [HBB.out]; exact below_drewN' hB2 _⟩
        · have hyl := toList_ne hy
          have hyb : (gy.toList == y.toList) = false := by rw [beq_eq_false_iff_ne]; exact hyl
          have hr := HFD.out
          rw [if_neg (by intro e; injection e with _ e; exact hy e)] at hr
          have HY := Lib.hid hy
          clear hy
          by_cases hz : named = 0
          · have hzI : ((named : Int) == 0) = true := by rw [beq_iff_eq]; omega
            rw [if_pos ⟨hz, rfl⟩] at hr
            have HR2 := Lib.hid hr
            have HZ := Lib.hid hz
            clear hr hz
            go_quiet (fail)
            go_upto_region 8 with fail
            go_quiet (fail)
            go_wp2
            go_roundw
            case measure => simp [intOf] <;> omega
            case rel => exact ⟨k + 1, k + 1, by omega, by omega, by go_num, by go_num, HR2.out, _, rfl⟩
          · have hzI : ((named : Int) == 0) = false := by rw [beq_eq_false_iff_ne]; omega
            rw [if_neg (fun h => hz h.1)] at hr
            have HR2 := Lib.hid hr
            have HZ := Lib.hid hz
            clear hr hz
            go_quiet (fail)
            go_upto_region 8 with fail
            go_quiet (fail)
            go_wp2
            go_roundw
            case measure => simp [intOf] <;> omega
            case rel => exact ⟨k + 1, named, by omega, by omega, by go_num, rfl, HR2.out, _, rfl⟩
      · have hxl := toList_ne hx
        have hxb : (gx.toList == x.toList) = false := by rw [beq_eq_false_iff_ne]; exact hxl
        have hr := HFD.out
        rw [if_neg (by intro e; injection e with e; exact hx e), if_neg (fun h => hx h.2)] at hr
        have HR2 := Lib.hid hr
        have HX := Lib.hid hx
        clear hr hx
        go_quiet (fail)
        go_upto_region 8 with fail
        go_quiet (fail)
        go_wp2
        go_roundw
        case measure => simp [intOf] <;> omega
        case rel => exact ⟨k + 1, named, by omega, by omega, by go_num, rfl, HR2.out, _, rfl⟩
    · obtain rfl : k = n := by omega
      rw [HEN.out k named (by rw [HAL.out]; exact Nat.le_refl _)] at hfd
      subst hfd
      go_wp2
      go_ret2
      exact ⟨rfl, by rw [HBB.out]; exact below_drewN' hB2 _⟩
end Go.Proofs.Ytmjibpjnhehnnaa
