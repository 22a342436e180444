/- The law HuffDecodes: the program reads as the reference does. -/
import Derived.Test.YtjgjeokfebpaaaaHx
import Derived.Test.YtjgjeokfebpaaaaRf
namespace Go.Proofs.Ytjgjeokfebpaaaa
open Go.RowKit
attribute [local go_sem ↓] Go.wp_at_zero Go.wp_at_succ

set_option maxRecDepth 100000 in
theorem huffDecodes_true (w : World) (s : ByteArray) (hs : s.size ≤ 1048576) (most : Int) (_wf : (Lit.int .i64 most).wf = true) :
    Calls Try.prog 4 #[.string s, .int .i64 most] w fun e w' => e = .returned (.bool true) ∧ Below w.heap.size w w' := by
  have H1 := Lib.hid (fun w => decode_any s most w (by omega))
  have H2 := Lib.hid (fun w => refDecode_any s most w (by omega))
  generalize strN (Hf.decode (nats s) (max most 0).toNat).1 = t at *
  generalize ((Hf.decode (nats s) (max most 0).toNat).2 : Int) = e0 at *
  clear hs
  go_enter Try.func4, Try.ntmps4
  go_wp2_with fail
  refine (H1.out _).mono ?_
  rintro e w1 ⟨rfl, hb1⟩
  go_wp2_with fail
  refine (H2.out _).mono ?_
  rintro e w2 ⟨rfl, hb2⟩
  go_wp2_with fail
  refine (awake_true _).mono ?_
  rintro e w3 ⟨rfl, hb3⟩
  go_wp2_with fail
  go_ret
  exact ⟨rfl, bel2 (bel2 hb1 hb2) hb3⟩
end Go.Proofs.Ytjgjeokfebpaaaa
