/- The examples of numbers and texts: awake answers true. -/
import Derived.Test.YtaogmekmampegaaPi
import Derived.Test.YtaogmekmampegaaPc
namespace Go.Proofs.Ytaogmekmampegaa
open Go.RowKit
attribute [local go_sem ↓] Go.wp_at_zero Go.wp_at_succ

theorem pe1 : Pr.wInt 224 32 1337 = ([255, 154, 10], 0) := by
  have h : Pr.int 224 32 1337 = [255, 154, 10] := by
    unfold Pr.int
    rw [if_neg (by omega), Pr.put_long (by omega), Pr.put_short (by omega)]
  exact (if_pos (by rfl)).trans (by rw [h])
theorem pe2 : Pr.read [255, 154, 10, 51] 32 = (1337, 3, 0) := by decide +kernel
theorem pe3 : Pr.readStr [136, 37, 168, 73, 233, 91, 169, 125, 127] 10 = ([99, 117, 115, 116, 111, 109, 45, 107, 101, 121], 9, 0) := by decide +kernel
theorem pe4 : Pr.readStr [3, 97, 98] 9 = ([], 0, 40) := by decide +kernel
theorem pe5 : Pr.str [] = [0] := by
  unfold Pr.str
  rw [if_neg (by simp)]
  rfl
theorem pcall1 (w : World) : Calls Try.prog 10 #[.int .u8 224, .int .i64 5, .int .i64 1337] w fun en w' => en = .returned (.tuple #[.string ⟨#[255, 154, 10]⟩, .int .i64 0]) ∧ Below w.heap.size w w' := by
  have := int_good 224 5 1337 32 w (by omega) (by omega) (by omega) (by omega) rfl
  rw [pe1] at this
  exact this
theorem pcall2 (w : World) : Calls Try.prog 13 #[.string ⟨#[255, 154, 10, 51]⟩, .int .i64 5] w fun en w' => en = .returned (.tuple #[.int .i64 1337, .int .i64 3, .int .i64 0]) ∧ w = w' :=
  readInt_good ⟨#[255, 154, 10, 51]⟩ 5 32 (1337, 3, 0) w (by omega) (by omega) rfl (by rw [show nats ⟨#[255, 154, 10, 51]⟩ = [255, 154, 10, 51] from by decide +kernel]; exact pe2)
theorem pcall3 (w : World) : Calls Try.prog 17 #[.string ⟨#[136, 37, 168, 73, 233, 91, 169, 125, 127]⟩, .int .i64 10] w fun en w' => en = .returned (.tuple #[.string ⟨#[99, 117, 115, 116, 111, 109, 45, 107, 101, 121]⟩, .int .i64 9, .int .i64 0]) ∧ Below w.heap.size w w' :=
  readStr_any ⟨#[136, 37, 168, 73, 233, 91, 169, 125, 127]⟩ 10 10 ([99, 117, 115, 116, 111, 109, 45, 107, 101, 121], 9, 0) w (by decide) (by rw [show nats ⟨#[136, 37, 168, 73, 233, 91, 169, 125, 127]⟩ = [136, 37, 168, 73, 233, 91, 169, 125, 127] from by decide +kernel]; exact pe3) (by decide +kernel)
theorem pcall4 (w : World) : Calls Try.prog 17 #[.string ⟨#[3, 97, 98]⟩, .int .i64 9] w fun en w' => en = .returned (.tuple #[.string ⟨#[]⟩, .int .i64 0, .int .i64 40]) ∧ Below w.heap.size w w' :=
  readStr_any ⟨#[3, 97, 98]⟩ 9 9 ([], 0, 40) w (by decide) (by rw [show nats ⟨#[3, 97, 98]⟩ = [3, 97, 98] from by decide +kernel]; exact pe4) (by decide +kernel)
theorem pcall5 (w : World) : Calls Try.prog 15 #[.string ⟨#[]⟩] w fun en w' => en = .returned (.string ⟨#[0]⟩) ∧ Below w.heap.size w w' := by
  have := str_any ⟨#[]⟩ w (by decide +kernel)
  rw [show nats ⟨#[]⟩ = [] from rfl, pe5] at this
  exact this
set_option maxRecDepth 100000 in
set_option maxHeartbeats 2000000 in
theorem awake_true (w : World) : Calls Try.prog 12 #[] w fun e w' => e = .returned (.bool true) ∧ Below w.heap.size w w' := by
  go_enter Try.func12, Try.ntmps12
  go_wp2_with fail
  refine (pcall1 _).mono ?_
  rintro e w1 ⟨rfl, hb1⟩
  go_wp2_with fail
  refine (pcall2 _).mono ?_
  rintro e w2 ⟨rfl, rfl⟩
  go_wp2_with fail
  refine (pcall3 _).mono ?_
  rintro e w3 ⟨rfl, hb3⟩
  go_wp2_with fail
  refine (pcall4 _).mono ?_
  rintro e w4 ⟨rfl, hb4⟩
  go_wp2_with fail
  refine (pcall5 _).mono ?_
  rintro e w5 ⟨rfl, hb5⟩
  go_wp2_with fail
  go_ret
  exact ⟨rfl, bel2 (bel2 (bel2 hb1 hb3) hb4) hb5⟩
end Go.Proofs.Ytaogmekmampegaa
