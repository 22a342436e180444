/- The laws PrimStrs and PrimReadStrs: the program's texts are the reference's. -/
import Derived.Test.YtaogmekmampegaaPk
import Derived.Test.YtaogmekmampegaaPn
namespace Go.Proofs.Ytaogmekmampegaa
open Go.RowKit
attribute [local go_sem ↓] Go.wp_at_zero Go.wp_at_succ

set_option maxRecDepth 100000 in
theorem primStrs_true (w : World) (s : ByteArray) (hs : s.size ≤ 1048576) :
    Calls Try.prog 5 #[.string s] w fun e w' => e = .returned (.bool true) ∧ Below w.heap.size w w' := by
  have H1 := Lib.hid (fun w => str_any s w (by omega))
  have H2 := Lib.hid (fun w => refStr_any s w (by omega))
  generalize strN (Pr.str (nats s)) = t at *
  clear hs
  go_enter Try.func5, Try.ntmps5
  go_wp2_with fail
  refine (awake_true _).mono ?_
  rintro e w1 ⟨rfl, hb1⟩
  go_wp2_with fail
  refine (H1.out _).mono ?_
  rintro e w2 ⟨rfl, hb2⟩
  go_wp2_with fail
  refine (H2.out _).mono ?_
  rintro e w3 ⟨rfl, hb3⟩
  go_wp2_with fail
  go_ret
  exact ⟨rfl, bel2 (bel2 hb1 hb2) hb3⟩

set_option maxRecDepth 100000 in
theorem primReadStrs_true (w : World) (s : ByteArray) (hs : s.size ≤ 140737488355328) (most : Int) (_wf : (Lit.int .i64 most).wf = true) :
    Calls Try.prog 6 #[.string s, .int .i64 most] w fun e w' => e = .returned (.bool true) ∧ Below w.heap.size w w' := by
  have H1 := Lib.hid (fun w => readStr_any s most _ _ w rfl rfl (by omega))
  have H2 := Lib.hid (fun w => refReadStr_any s most _ _ w rfl rfl (by omega))
  generalize Pr.readStr (nats s) (max most 0).toNat = r at *
  obtain ⟨t, k, e0⟩ := r
  simp only at H1 H2
  generalize strN t = T at *
  generalize (k : Int) = K at *
  generalize (e0 : Int) = E0 at *
  clear hs
  go_enter Try.func6, Try.ntmps6
  go_wp2_with fail
  refine (H1.out _).mono ?_
  rintro e w1 ⟨rfl, hb1⟩
  go_wp2_with fail
  refine (H2.out _).mono ?_
  rintro e w2 ⟨rfl, hb2⟩
  go_wp2_with fail
  refine (awake_true _).mono ?_
  rintro e w3 ⟨rfl, hb3⟩
  go_wp2_with fail
  go_ret
  exact ⟨rfl, bel2 (bel2 hb1 hb2) hb3⟩
end Go.Proofs.Ytaogmekmampegaa
