/- SameInts says yes of one list in two places. -/
import Derived.Test.YtonekffcanlmeaaQo
namespace Go.Proofs.Ytonekffcanlmeaa
open Go.Conc Go.RowKit

/-- A slice reads as a list. -/
def RowAt {α : Type} (w : World) (a : Option Addr) (len : Nat) (enc : α → Value) (xs : List α) : Prop :=
  xs.length = len ∧ ∀ (i : Nat) (h : i < xs.length), ∃ x : Addr, a = some x ∧ w.cell? (x.add i) = some (enc xs[i])
theorem RowAt.of_own {α : Type} {w : World} {base n c : Nat} {e : TypeId} {A : Option Addr} {enc : α → Value} {xs : List α} (h : w.ownsRow base e 1 (.slice A n c) n (xs.map enc)) : RowAt w A n enc xs := by
  have hl : xs.length = n := by have := h.1; simpa using this
  refine ⟨hl, fun i hi => ?_⟩
  obtain ⟨x, u, hx, hu, hc⟩ := own_at h i (by omega)
  refine ⟨x, hx, hc.trans ?_⟩
  rw [List.getElem?_map, List.getElem?_eq_getElem hi] at hu
  exact hu.symm
theorem RowOf.below {α : Type} {w w' : World} {a : Option Addr} {len : Nat} {enc : α → Value} {xs : List α} (h : RowOf w a len enc xs) (hb : Below w.heap.size w w') (m : Nat) (hm : m ≤ len) : RowAt w' a m enc (xs.take m) := by
  refine ⟨by rw [List.length_take, h.1]; omega, fun i hi => ?_⟩
  rw [List.length_take] at hi
  obtain ⟨x, hx, hbk, hc⟩ := h.2 i (by omega)
  refine ⟨x, hx, (hb.cell (p := x.add i) (by rw [add_block]; exact hbk)).trans (hc.trans ?_)⟩
  rw [List.getElem_take]

set_option maxRecDepth 100000 in
theorem same_ints (a b : Option Addr) (n c d : Nat) (xs : List Int) (w : World) (hn : n ≤ maxLen) (ha : RowAt w a n (Value.int .i64) xs) (hb : RowAt w b n (Value.int .i64) xs) :
    Calls Try.prog 14 #[.slice a n c, .slice b n d] w fun e w' => e = .returned (.bool true) ∧ ∃ k, w' = w.drewN k := by
  unfold maxLen at hn
  go_enter Try.func14, Try.ntmps14
  go_wp2
  go_loopw [5] (fun i wr => ∃ (j m : Nat), j ≤ n ∧ i = .int .i64 j ∧ wr = w.drewN m) (fun i _ => n - (intOf i).toNat)
  case atStart => exact ⟨0, 0, Nat.zero_le _, rfl, rfl⟩
  case round =>
    obtain ⟨j, m, hj, rfl, rfl⟩ := hrel
    by_cases hlt : j < n
    · obtain ⟨x, rfl, hx⟩ := ha.2 j (by rw [ha.1]; exact hlt)
      obtain ⟨y, rfl, hy⟩ := hb.2 j (by rw [hb.1]; exact hlt)
      obtain ⟨v, hvx, hvy⟩ : ∃ v, w.cell? (x.add j) = some (.int .i64 v) ∧ w.cell? (y.add j) = some (.int .i64 v) := ⟨_, hx, hy⟩
      clear hx hy
      have ha' := Lib.hid ha
      have hb' := Lib.hid hb
      clear ha hb
      have hjc : (0 : Int) ≤ (j : Int) := by omega
      have hjl : (j : Int) < (n : Int) := by omega
      go_wp2
      go_quiet (fail)
      go_wp2
      go_roundw
      case rel => exact ⟨j + 1, _, by omega, by go_num, rfl⟩
      case measure => simp [intOf]; omega
    · obtain rfl : j = n := by omega
      go_wp2
      go_ret
      exact ⟨rfl, m, rfl⟩
end Go.Proofs.Ytonekffcanlmeaa
