/- The law's examples: awake answers true. -/
import Derived.Test.YtjgjeokfebpaaaaHd
import Derived.Test.YtjgjeokfebpaaaaHe
namespace Go.Proofs.Ytjgjeokfebpaaaa
open Go.RowKit
attribute [local go_sem ↓] Go.wp_at_zero Go.wp_at_succ

theorem ev1 : Hf.decode [168, 235, 16, 100, 156, 191] 8 = ([110, 111, 45, 99, 97, 99, 104, 101], 0) := by decide +kernel
theorem ev2 : Hf.decode [255, 255, 255, 255] 9 = ([], 31) := by decide +kernel
theorem ev3 : Hf.decode [6] 9 = ([], 30) := by decide +kernel
theorem ev4 : Hf.decode [7] 0 = ([], 3) := by decide +kernel
theorem ev5 : Hf.decode [241, 227, 194, 229, 242, 58, 107, 160, 171, 144, 244, 255] 15 = ([119, 119, 119, 46, 101, 120, 97, 109, 112, 108, 101, 46, 99, 111, 109], 0) := by decide +kernel
theorem ev6 : Hf.enc [119, 119, 119, 46, 101, 120, 97, 109, 112, 108, 101, 46, 99, 111, 109] = [241, 227, 194, 229, 242, 58, 107, 160, 171, 144, 244, 255] := (Hf.enc_decode _ (by unfold Hf.Byte; decide) 15 _ ev5).2
theorem ev7 : (Hf.enc [110, 111, 45, 99, 97, 99, 104, 101]).length = 6 := by rw [Hf.enc_length]; decide +kernel

theorem decode_at (s : ByteArray) (most : Int) (l t : List Nat) (m e : Nat) (hl : nats s = l) (hm : (max most 0).toNat = m) (h : Hf.decode l m = (t, e)) (hs : s.size ≤ 17592186044416) (w : World) :
    Calls Try.prog 13 #[.string s, .int .i64 most] w fun en w' => en = .returned (.tuple #[.string (strN t), .int .i64 (e : Int)]) ∧ Below w.heap.size w w' := by
  have := decode_any s most w hs
  rw [hl, hm, h] at this
  exact this
theorem call1 (w : World) : Calls Try.prog 13 #[.string ⟨#[168, 235, 16, 100, 156, 191]⟩, .int .i64 8] w fun en w' => en = .returned (.tuple #[.string ⟨#[110, 111, 45, 99, 97, 99, 104, 101]⟩, .int .i64 0]) ∧ Below w.heap.size w w' :=
  decode_at _ 8 _ _ 8 0 (by decide +kernel) (by decide) ev1 (by decide +kernel) w
theorem call2 (w : World) : Calls Try.prog 13 #[.string ⟨#[255, 255, 255, 255]⟩, .int .i64 9] w fun en w' => en = .returned (.tuple #[.string ⟨#[]⟩, .int .i64 31]) ∧ Below w.heap.size w w' :=
  decode_at _ 9 _ _ 9 31 (by decide +kernel) (by decide) ev2 (by decide +kernel) w
theorem call3 (w : World) : Calls Try.prog 13 #[.string ⟨#[6]⟩, .int .i64 9] w fun en w' => en = .returned (.tuple #[.string ⟨#[]⟩, .int .i64 30]) ∧ Below w.heap.size w w' :=
  decode_at _ 9 _ _ 9 30 (by decide +kernel) (by decide) ev3 (by decide +kernel) w
theorem call4 (w : World) : Calls Try.prog 13 #[.string ⟨#[7]⟩, .int .i64 0] w fun en w' => en = .returned (.tuple #[.string ⟨#[]⟩, .int .i64 3]) ∧ Below w.heap.size w w' :=
  decode_at _ 0 _ _ 0 3 (by decide +kernel) (by decide) ev4 (by decide +kernel) w
theorem call5 (w : World) : Calls Try.prog 11 #[.string ⟨#[119, 119, 119, 46, 101, 120, 97, 109, 112, 108, 101, 46, 99, 111, 109]⟩] w fun en w' => en = .returned (.string ⟨#[241, 227, 194, 229, 242, 58, 107, 160, 171, 144, 244, 255]⟩) ∧ Below w.heap.size w w' := by
  have := encode_any ⟨#[119, 119, 119, 46, 101, 120, 97, 109, 112, 108, 101, 46, 99, 111, 109]⟩ w (by decide +kernel)
  rw [show nats ⟨#[119, 119, 119, 46, 101, 120, 97, 109, 112, 108, 101, 46, 99, 111, 109]⟩ = [119, 119, 119, 46, 101, 120, 97, 109, 112, 108, 101, 46, 99, 111, 109] from by decide +kernel, ev6] at this
  exact this
theorem call6 (w : World) : Calls Try.prog 12 #[.string ⟨#[110, 111, 45, 99, 97, 99, 104, 101]⟩] w fun en w' => en = .returned (.int .i64 6) ∧ Below w.heap.size w w' := by
  have := size_any ⟨#[110, 111, 45, 99, 97, 99, 104, 101]⟩ w (by decide +kernel)
  rw [show nats ⟨#[110, 111, 45, 99, 97, 99, 104, 101]⟩ = [110, 111, 45, 99, 97, 99, 104, 101] from by decide +kernel, ev7] at this
  exact this
set_option maxRecDepth 100000 in
set_option maxHeartbeats 2000000 in
theorem awake_true (w : World) : Calls Try.prog 10 #[] w fun e w' => e = .returned (.bool true) ∧ Below w.heap.size w w' := by
  go_enter Try.func10, Try.ntmps10
  go_wp2_with fail
  refine (call1 _).mono ?_
  rintro e w1 ⟨rfl, hb1⟩
  go_wp2_with fail
  refine (call2 _).mono ?_
  rintro e w2 ⟨rfl, hb2⟩
  go_wp2_with fail
  refine (call3 _).mono ?_
  rintro e w3 ⟨rfl, hb3⟩
  go_wp2_with fail
  refine (call4 _).mono ?_
  rintro e w4 ⟨rfl, hb4⟩
  go_wp2_with fail
  refine (call5 _).mono ?_
  rintro e w5 ⟨rfl, hb5⟩
  go_wp2_with fail
  refine (call6 _).mono ?_
  rintro e w6 ⟨rfl, hb6⟩
  go_wp2_with fail
  go_ret
  exact ⟨rfl, ((((hb1.trans (hb2.mono hb1.size)).trans (hb3.mono (by have := hb1.size; have := hb2.size; omega))).trans (hb4.mono (by have := hb1.size; have := hb2.size; have := hb3.size; omega))).trans (hb5.mono (by have := hb1.size; have := hb2.size; have := hb3.size; have := hb4.size; omega))).trans (hb6.mono (by have := hb1.size; have := hb2.size; have := hb3.size; have := hb4.size; have := hb5.size; omega))⟩
end Go.Proofs.Ytjgjeokfebpaaaa
