/- The laws PrimInts and PrimReadInts: the program's numbers are the reference's. -/
import Derived.Test.YtaogmekmampegaaPk
import Derived.Test.YtaogmekmampegaaPf
namespace Go.Proofs.Ytaogmekmampegaa
open Go.RowKit
attribute [local go_sem ↓] Go.wp_at_zero Go.wp_at_succ

theorem u8_nat {h : Int} (wf : (Lit.int .u8 h).wf = true) : ∃ m : Nat, h = (m : Int) ∧ m < 256 := by
  have h2 : IntKind.u8.min ≤ h ∧ h ≤ IntKind.u8.max := by simpa [Lit.wf] using wf
  have h3 : IntKind.u8.min = 0 := by decide
  have h4 : IntKind.u8.max = 255 := by decide
  exact ⟨h.toNat, by omega, by omega⟩
/-- Both write the same. -/
theorem both_int (h b n : Int) (wf : (Lit.int .u8 h).wf = true) : ∃ (t : ByteArray) (e : Int),
    (∀ w, Calls Try.prog 10 #[.int .u8 h, .int .i64 b, .int .i64 n] w fun en w' => en = .returned (.tuple #[.string t, .int .i64 e]) ∧ Below w.heap.size w w') ∧
    (∀ w, Calls Try.prog 11 #[.int .u8 h, .int .i64 b, .int .i64 n] w fun en w' => en = .returned (.tuple #[.string t, .int .i64 e]) ∧ Below w.heap.size w w') := by
  obtain ⟨m, rfl, hm⟩ := u8_nat wf
  by_cases hb : b < 1 ∨ 8 < b ∨ n < 0 ∨ 2147483647 < n
  · exact ⟨⟨#[]⟩, 1, fun w => (int_bad m b n w hb).mono fun e w' h => ⟨h.1, by rw [h.2]; exact Below.refl _ _⟩, fun w => (refInt_bad m b n w hb).mono fun e w' h => ⟨h.1, by rw [h.2]; exact Below.refl _ _⟩⟩
  · obtain ⟨b', rfl⟩ : ∃ b' : Nat, b = (b' : Int) := ⟨b.toNat, by omega⟩
    obtain ⟨n', rfl⟩ : ∃ n' : Nat, n = (n' : Int) := ⟨n.toNat, by omega⟩
    exact ⟨_, _, fun w => int_good m b' n' (2 ^ b') w (by omega) (by omega) hm (by omega) rfl, fun w => refInt_good m b' n' (2 ^ b') w (by omega) (by omega) hm (by omega) rfl⟩
/-- Both read the same. -/
theorem both_read (s : ByteArray) (b : Int) : ∃ n k e : Int,
    (∀ w, Calls Try.prog 13 #[.string s, .int .i64 b] w fun en w' => en = .returned (.tuple #[.int .i64 n, .int .i64 k, .int .i64 e]) ∧ w = w') ∧
    (∀ w, Calls Try.prog 14 #[.string s, .int .i64 b] w fun en w' => en = .returned (.tuple #[.int .i64 n, .int .i64 k, .int .i64 e]) ∧ w = w') := by
  by_cases hb : b < 1 ∨ 8 < b
  · exact ⟨0, 0, 1, fun w => readInt_bad s b w hb, fun w => refReadInt_bad s b w hb⟩
  · obtain ⟨b', rfl⟩ : ∃ b' : Nat, b = (b' : Int) := ⟨b.toNat, by omega⟩
    exact ⟨_, _, _, fun w => readInt_good s b' (2 ^ b') _ w (by omega) (by omega) rfl rfl, fun w => refReadInt_good s b' (2 ^ b') _ w (by omega) (by omega) rfl rfl⟩

set_option maxRecDepth 100000 in
theorem primInts_true (w : World) (h : Int) (wf0 : (Lit.int .u8 h).wf = true) (b : Int) (_wf1 : (Lit.int .i64 b).wf = true) (n : Int) (_wf2 : (Lit.int .i64 n).wf = true) :
    Calls Try.prog 3 #[.int .u8 h, .int .i64 b, .int .i64 n] w fun e w' => e = .returned (.bool true) ∧ Below w.heap.size w w' := by
  obtain ⟨t, e, h1, h2⟩ := both_int h b n wf0
  have H1 := Lib.hid h1
  have H2 := Lib.hid h2
  clear h1 h2 wf0
  go_enter Try.func3, Try.ntmps3
  go_wp2_with fail
  refine (H1.out _).mono ?_
  rintro en w1 ⟨rfl, hb1⟩
  go_wp2_with fail
  refine (H2.out _).mono ?_
  rintro en w2 ⟨rfl, hb2⟩
  go_wp2_with fail
  refine (awake_true _).mono ?_
  rintro en w3 ⟨rfl, hb3⟩
  go_wp2_with fail
  go_ret
  exact ⟨rfl, bel2 (bel2 hb1 hb2) hb3⟩

set_option maxRecDepth 100000 in
theorem primReadInts_true (w : World) (s : ByteArray) (_hs : s.size ≤ maxLen) (b : Int) (_wf1 : (Lit.int .i64 b).wf = true) :
    Calls Try.prog 4 #[.string s, .int .i64 b] w fun e w' => e = .returned (.bool true) ∧ Below w.heap.size w w' := by
  obtain ⟨n, k, e, h1, h2⟩ := both_read s b
  have H1 := Lib.hid h1
  have H2 := Lib.hid h2
  clear h1 h2
  go_enter Try.func4, Try.ntmps4
  go_wp2_with fail
  refine (H1.out _).mono ?_
  rintro en w1 ⟨rfl, rfl⟩
  go_wp2_with fail
  refine (H2.out _).mono ?_
  rintro en w2 ⟨rfl, rfl⟩
  go_wp2_with fail
  refine (awake_true _).mono ?_
  rintro en w3 ⟨rfl, hb3⟩
  go_wp2_with fail
  go_ret
  exact ⟨rfl, hb3⟩
end Go.Proofs.Ytaogmekmampegaa
