/- prim.Int, walked: it writes the bytes of the plain law. -/
import Derived.Test.YtmjibpjnhehnnaaSt
import Derived.Test.YtmjibpjnhehnnaaPa
import Derived.Laws.BitsAllLaws
import Derived.Deep.LoopGhost
import Derived.Deep.QuietTactic
import Derived.BigQuiet
import Derived.Lib.Hide
namespace Go.Proofs.Ytmjibpjnhehnnaa
open Go.RowKit
attribute [local go_sem ↓] Go.wp_at_zero Go.wp_at_succ

theorem byte_snoc {out : List Nat} (h : Hf.Byte out) {x : Nat} (hx : x < 256) : Hf.Byte (out ++ [x]) := by
  intro y hy
  rcases List.mem_append.1 hy with hy | hy
  · exact h y hy
  · simp at hy; omega
/-- A text of one byte. -/
theorem run_text1 (w : World) (m : Nat) (hm : m < 256) : (convert 67 9 (.slice (some ⟨w.heap.size, 0, none⟩) 1 1)).run Try.prog (w.alloc (.cells #[.int .u8 (m : Int)] 5)) = .ok (.string (strN [m])) (w.alloc (.cells #[.int .u8 (m : Int)] 5)) := by
  have h := World.ownsRow_lit (base := w.heap.size) (e := 5) (size := 1) w #[.int .u8 (m : Int)] 1 (Nat.le_refl _) (by unfold maxLen; omega) rfl
  exact run_text (l := [m]) h (by intro x hx; simp at hx; omega)
theorem own_one (w : World) (m : Nat) : (w.alloc (.cells #[.int .u8 (m : Int)] 5)).ownsRow w.heap.size 5 1 (.slice (some ⟨w.heap.size, 0, none⟩) 1 1) 1 (u8s [m]) :=
  World.ownsRow_lit (base := w.heap.size) (e := 5) (size := 1) w #[.int .u8 (m : Int)] 1 (Nat.le_refl _) (by unfold maxLen; omega) rfl

theorem and_mask : ∀ h, h < 256 → ∀ b, b < 9 → bits .and .i64 ((h : Nat) : Int) ((2 ^ b - 1 : Nat) : Int) = ((h % 2 ^ b : Nat) : Int) := by decide +kernel
theorem or_128 : ∀ x, x < 256 → bits .or .u8 ((x : Nat) : Int) 128 = ((128 + x % 128 : Nat) : Int) := by decide +kernel
theorem pow_in (b m : Nat) (hb1 : 1 ≤ b) (hb8 : b ≤ 8) (hm : m = 2 ^ b) : 2 ≤ m ∧ m ≤ 256 := by
  have h1 : 2 ^ 1 ≤ 2 ^ b := Nat.pow_le_pow_right (by omega) hb1
  have h2 : 2 ^ b ≤ 2 ^ 8 := Nat.pow_le_pow_right (by omega) hb8
  omega

set_option maxRecDepth 100000 in
theorem int_bad (h : Int) (b n : Int) (w : World) (hb : b < 1 ∨ 8 < b ∨ n < 0 ∨ 2147483647 < n) :
    Calls Try.prog 49 #[.int .u8 h, .int .i64 b, .int .i64 n] w fun e w' => e = .returned (.tuple #[.string ⟨#[]⟩, .int .i64 1]) ∧ w' = w := by
  by_cases h1 : b < 1
  · go_enter Try.func49, Try.ntmps49
    go_wp2
    go_ret2
    exact ⟨rfl, rfl⟩
  · by_cases h2 : 8 < b
    · go_enter Try.func49, Try.ntmps49
      go_wp2
      go_ret2
      exact ⟨rfl, rfl⟩
    · by_cases h3 : n < 0
      · go_enter Try.func49, Try.ntmps49
        go_wp2
        go_ret2
        exact ⟨rfl, rfl⟩
      · have h4 : 2147483647 < n := by omega
        go_enter Try.func49, Try.ntmps49
        go_wp2
        go_ret2
        exact ⟨rfl, rfl⟩

set_option maxRecDepth 100000 in
set_option maxHeartbeats 2000000 in
theorem int_good (h b n m : Nat) (w : World) (hb1 : 1 ≤ b) (hb8 : b ≤ 8) (hh : h < 256) (hn : n ≤ 2147483647) (hm : m = 2 ^ b) :
    Calls Try.prog 49 #[.int .u8 (h : Int), .int .i64 (b : Int), .int .i64 (n : Int)] w fun e w' => e = .returned (.tuple #[.string (strN (Pr.wInt h m n).1), .int .i64 ((Pr.wInt h m n).2 : Nat)]) ∧ Below w.heap.size w w' := by
  have hm1 := pow_in b m hb1 hb8 hm
  have hb0 : (0 : Int) ≤ (b : Int) := by omega
  have hbI1 : ¬ (b : Int) < 1 := by omega
  have hbI8 : ¬ (8 : Int) < (b : Int) := by omega
  have hn0 : ¬ (n : Int) < 0 := by omega
  have hn1 : ¬ (2147483647 : Int) < (n : Int) := by omega
  have hsh : IntKind.i64.wrap ((2 : Int) ^ b) = (m : Int) := by
    have h1 : ((2 : Int) ^ b) = ((2 ^ b : Nat) : Int) := by simp
    rw [h1, ← hm, IntWalk.i64_in _ (by omega)]
  have hms : IntKind.i64.wrap ((m : Int) - 1) = ((m - 1 : Nat) : Int) := by rw [IntWalk.i64_in _ (by omega)]; omega
  have hwh : IntKind.i64.wrap (h : Int) = (h : Int) := IntWalk.i64_in _ (by omega)
  have hand := and_mask h hh b (by omega)
  rw [← hm] at hand
  by_cases hr : h % m = 0
  · have hw : Pr.wInt h m n = (Pr.int h m n, 0) := if_pos hr
    rw [hw]
    rw [hr] at hand
    have hand : bits .and .i64 (h : Int) ((m - 1 : Nat) : Int) = 0 := hand
    have hil := Pr.int_len h m n hn
    by_cases hlt : n < m - 1
    · have hin : Pr.int h m n = [h + n] := if_pos hlt
      rw [hin]
      have hor : bits .or .u8 (h : Int) (n : Int) = ((h + n : Nat) : Int) := by
        rw [u8_or_nat h n hh (by omega), nat_join b h n (by rw [← hm]; exact hr) (by rw [← hm]; omega)]
      have hlt2 : h + n < 256 := by
        have : h / m * m + h % m = h := by rw [Nat.mul_comm]; exact Nat.div_add_mod h m
        have h3 : m ∣ 256 := by rw [hm]; exact Nat.pow_dvd_pow 2 hb8
        obtain ⟨c, hc⟩ := h3
        have h4 : h / m < c := by
          rw [hc] at hh
          exact Nat.div_lt_of_lt_mul hh
        have h5 : (h / m + 1) * m ≤ c * m := Nat.mul_le_mul_right m h4
        rw [Nat.add_mul, Nat.one_mul, Nat.mul_comm c m, ← hc] at h5
        omega
      have htext := run_text1 w (h + n) hlt2
      have hnI : (n : Int) < ((m - 1 : Nat) : Int) := by omega
      have hn256 : (n : Int) % 256 = (n : Int) := by omega
      have hbel : Below w.heap.size w (w.alloc (.cells #[.int .u8 ((h + n : Nat) : Int)] 5)) := (Below.refl _ _).alloc (Nat.le_refl _) _
      generalize h + n = y at hor htext hbel ⊢
      generalize m - 1 = k at hms hand hnI
      generalize (m : Int) = M at hsh hms
      clear hm hm1 hr hh hn hlt hw hin hil hlt2
      go_enter Try.func49, Try.ntmps49
      go_wp2
      go_ret2
      exact ⟨rfl, hbel⟩
    · have hin : Pr.int h m n = (h + (m - 1)) :: Pr.put (n - (m - 1)) := if_neg hlt
      have hor : bits .or .u8 (h : Int) ((m - 1 : Nat) : Int) = ((h + (m - 1) : Nat) : Int) := by
        rw [u8_or_nat h (m - 1) hh (by omega), nat_join b h (m - 1) (by rw [← hm]; exact hr) (by rw [← hm]; omega)]
      have hlt2 : h + (m - 1) < 256 := by
        have : h / m * m + h % m = h := by rw [Nat.mul_comm]; exact Nat.div_add_mod h m
        have h3 : m ∣ 256 := by rw [hm]; exact Nat.pow_dvd_pow 2 hb8
        obtain ⟨c, hc⟩ := h3
        have h4 : h / m < c := by
          rw [hc] at hh
          exact Nat.div_lt_of_lt_mul hh
        have h5 : (h / m + 1) * m ≤ c * m := Nat.mul_le_mul_right m h4
        rw [Nat.add_mul, Nat.one_mul, Nat.mul_comm c m, ← hc] at h5
        omega
      have hown := own_one w (h + (m - 1))
      have hnI : ¬ (n : Int) < ((m - 1 : Nat) : Int) := by omega
      have hk256 : ((m - 1 : Nat) : Int) % 256 = ((m - 1 : Nat) : Int) := by omega
      have hbel : Below w.heap.size w (w.alloc (.cells #[.int .u8 ((h + (m - 1) : Nat) : Int)] 5)) := (Below.refl _ _).alloc (Nat.le_refl _) _
      have hsub : IntKind.i64.wrap ((n : Int) - ((m - 1 : Nat) : Int)) = ((n - (m - 1) : Nat) : Int) := by rw [IntWalk.i64_in _ (by omega)]; omega
      have hq0 : n - (m - 1) ≤ 2147483647 := by omega
      rw [hin] at hil ⊢
      generalize n - (m - 1) = q0 at hsub hq0 hil ⊢
      generalize h + (m - 1) = y at hor hlt2 hown hbel hil ⊢
      generalize m - 1 = k at hms hand hnI hor hk256 hsub
      generalize (m : Int) = M at hsh hms
      have HIL := Lib.hid hil
      have HQ0 := Lib.hid hq0
      have HY := Lib.hid hlt2
      clear hm hm1 hr hh hn hlt hw hin hil hlt2 hq0
      go_enter Try.func49, Try.ntmps49
      go_wp2
      go_loopw [2, 9] (fun n o wr => ∃ (q : Nat) (out : List Nat), n = .int .i64 (q : Int) ∧ wr.ownsRow w.heap.size 5 1 o out.length (u8s out) ∧ out ++ Pr.put q = y :: Pr.put q0 ∧ q ≤ 2147483647 ∧ Hf.Byte out ∧ Below w.heap.size w wr) (fun n _ _ => (intOf n).toNat)
      case atStart => exact ⟨q0, [y], rfl, hown, rfl, HQ0.out, (by intro x hx; simp at hx; have := HY.out; omega), hbel⟩
      case round =>
        obtain ⟨q, out, rfl, hown2, heq, hq, hbyte, hB⟩ := hrel
        obtain ⟨A, c, rfl⟩ := own_slice hown2
        have hlen : out.length + 1 ≤ 6 := by
          have h1 := HIL.out.2
          rw [← heq, List.length_append] at h1
          have h2 : 1 ≤ (Pr.put q).length := by
            by_cases h3 : q < 128
            · rw [Pr.put_short h3]; simp
            · rw [Pr.put_long (by omega)]; simp
          omega
        by_cases h127 : q < 128
        · have hqI : ¬ (127 : Int) < (q : Int) := by omega
          have hq256 : (q : Int) % 256 = (q : Int) := by omega
          rw [Pr.put_short h127] at heq
          have hby : Hf.Byte (out ++ [q]) := byte_snoc hbyte (by omega)
          have HEQ := Lib.hid heq
          have HLEN := Lib.hid hlen
          have HBY := Lib.hid hby
          clear heq hlen hq hbyte hby hown hbel h127
          go_wp2_with (at_builtin; go_must (refine wpList_push w.heap.size (by rfl) _ _ 67 5 _ 1 (by rfl) Try.underlying67 info_u8 rfl (.slice A out.length c) out.length (u8s out) (.int .u8 (q : Int)) (by rfl) (by rfl) rfl (by exact hown2) hB.size (by have := HLEN.out; unfold maxLen; omega) (by have := HLEN.out; omega) ?_; intro v5 w5 hown5 hg5 hat5))
          have hB5 : Below w.heap.size w w5 := (hB.alloc hB.size _).grown hg5 (by have := hB.size; simp; omega) (fun g hg => (hown2.lt g hg).1)
          obtain ⟨A5, c5, rfl⟩ := own_slice hown5
          have hown6 : w5.ownsRow w.heap.size 5 1 (.slice A5 (out.length + 1) c5) (out.length + 1) (u8s (out ++ [q])) := by rw [u8s_append]; exact hown5
          have htext := run_text hown6 HBY.out
          clear hown2 hown5 hown6 hg5 hat5 hB
          go_simp
          go_wp2
          go_ret2
          rw [HEQ.out]
          exact ⟨rfl, hB5⟩
        · have hqI : (127 : Int) < (q : Int) := by omega
          have hq256 : (q : Int) % 256 = ((q % 256 : Nat) : Int) := by omega
          have hor2 := or_128 (q % 256) (Nat.mod_lt _ (by omega))
          rw [show q % 256 % 128 = q % 128 from by omega] at hor2
          rw [Pr.put_long (by omega), show out ++ (128 + q % 128) :: Pr.put (q / 128) = (out ++ [128 + q % 128]) ++ Pr.put (q / 128) from by simp] at heq
          have hby : Hf.Byte (out ++ [128 + q % 128]) := byte_snoc hbyte (by omega)
          have hdiv : (q : Int) / 128 = ((q / 128 : Nat) : Int) := by omega
          have hdlt : q / 128 < q := by omega
          have hd2 : q / 128 ≤ 2147483647 := by omega
          generalize q / 128 = q' at heq hdiv hdlt hd2
          generalize 128 + q % 128 = z at hor2 heq hby
          generalize q % 256 = q2 at hq256 hor2
          have HEQ := Lib.hid heq
          have HLEN := Lib.hid hlen
          have HBY := Lib.hid hby
          have HD2 := Lib.hid hd2
          clear heq hlen hq hbyte hby hown hbel h127 hd2
          go_wp2_with (at_builtin; go_must (refine wpList_push w.heap.size (by rfl) _ _ 67 5 _ 1 (by rfl) Try.underlying67 info_u8 rfl (.slice A out.length c) out.length (u8s out) (.int .u8 (z : Int)) (by rfl) (by rfl) rfl (by exact hown2) hB.size (by have := HLEN.out; unfold maxLen; omega) (by have := HLEN.out; omega) ?_; intro v5 w5 hown5 hg5 hat5))
          have hB5 : Below w.heap.size w w5 := (hB.alloc hB.size _).grown hg5 (by have := hB.size; simp; omega) (fun g hg => (hown2.lt g hg).1)
          have hown6 : w5.ownsRow w.heap.size 5 1 v5 (out ++ [z]).length (u8s (out ++ [z])) := by rw [u8s_append, List.length_append]; exact hown5
          clear hown2 hown5 hg5 hat5 hB
          go_wp2
          go_roundw
          case measure => simp [intOf]; omega
          case rel => exact ⟨q', out ++ [z], rfl, hown6, HEQ.out, HD2.out, HBY.out, hB5⟩
  · have hw : Pr.wInt h m n = ([], 1) := if_neg hr
    rw [hw]
    have hne : (((h % m : Nat) : Int) != 0) = true := by rw [bne_iff_ne]; omega
    generalize h % m = r at hand hne
    generalize m - 1 = k at hms hand
    generalize (m : Int) = M at hsh hms
    clear hm hm1 hr hh hn hw
    go_enter Try.func49, Try.ntmps49
    go_wp2
    go_ret2
    exact ⟨rfl, Below.refl _ _⟩
end Go.Proofs.Ytmjibpjnhehnnaa
