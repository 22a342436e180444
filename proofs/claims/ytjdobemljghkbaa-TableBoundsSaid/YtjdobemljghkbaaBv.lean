/- TableBounds and its script: for every input. -/
import Derived.Test.YtjdobemljghkbaaBw
import Derived.Test.YtjdobemljghkbaaTl
namespace Go.Proofs.Ytjdobemljghkbaa
open Go.RowKit
theorem bounds_true (w : World) (n : Int) (_wf : (Lit.int .i64 n).wf = true) (a : Option Addr) (len cap : Nat) (h : len * 48 ≤ 140737488351232 ∧ ∀ i, i < len → CallAt w a i) :
    Calls Try.prog 6 #[.int .i64 n, .slice a len cap] w fun e w' => e = .returned (.bool true) ∧ Below w.heap.size w w' := by
  by_cases hs : n < 0 ∨ 65536 < n
  · exact bounds_bad w n hs a len cap
  · obtain ⟨m, rfl⟩ := Int.eq_ofNat_of_zero_le (show 0 ≤ n by omega)
    exact bounds_good w m (by omega) a len cap h.1 h.2
end Go.Proofs.Ytjdobemljghkbaa
