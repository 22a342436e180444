/- The law HuffEncodes: the program codes as the reference does. -/
import Derived.Test.YtjgjeokfebpaaaaHx
import Derived.Test.YtjgjeokfebpaaaaRe
namespace Go.Proofs.Ytjgjeokfebpaaaa
open Go.RowKit
attribute [local go_sem ↓] Go.wp_at_zero Go.wp_at_succ

theorem below_undrewN {B : Nat} {w W : World} {n : Nat} (h : Below B (w.drewN n) W) : Below B w W := ⟨h.os, h.tape, h.output, h.size, h.block⟩
theorem refEncode_S (s : ByteArray) (w : World) (hs : s.size ≤ 1048576) : Calls Try.prog 9 #[.string s] w fun e w' => e = .returned (.string (encS s)) ∧ Below w.heap.size w w' := refEncode_any s w (by omega)
set_option maxRecDepth 100000 in
theorem huffEncodes_true (w : World) (s : ByteArray) (hs : s.size ≤ 1048576) :
    Calls Try.prog 3 #[.string s] w fun e w' => e = .returned (.bool true) ∧ Below w.heap.size w w' := by
  have H1 := Lib.hid (fun w => refEncode_S s w hs)
  have H2 := Lib.hid (fun w => encode_S s w (by omega))
  have H3 := Lib.hid (fun w => size_S s _ rfl w (by omega))
  generalize encS s = c at *
  clear hs
  go_enter Try.func3, Try.ntmps3
  go_wp2_with fail
  refine (H1.out _).mono ?_
  rintro e w1 ⟨rfl, hb1⟩
  go_wp2_with fail
  refine (awake_true _).mono ?_
  rintro e w2 ⟨rfl, hb2⟩
  go_wp2_with fail
  refine (H2.out _).mono ?_
  rintro e w3 ⟨rfl, hb3⟩
  go_wp2_with fail
  refine (H3.out _).mono ?_
  rintro e w4 ⟨rfl, hb4⟩
  go_wp2_with fail
  go_ret
  exact ⟨rfl, bel2 (bel2 (bel2 hb1 hb2) hb3) hb4⟩
end Go.Proofs.Ytjgjeokfebpaaaa
