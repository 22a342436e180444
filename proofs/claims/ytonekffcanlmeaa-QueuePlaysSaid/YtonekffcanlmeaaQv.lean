/- The script of QueuePlays, read off the arguments; the walk for every input. -/
import Derived.Test.YtonekffcanlmeaaQu
import Derived.Test.YtonekffcanlmeaaFl
import Derived.OpenShut
import Derived.SizedLaws
namespace Go.Proofs.Ytonekffcanlmeaa
open Go.ChangeShapes Go.WideShapes Go.RowKit

theorem open_calls {H : Type} {enc : TypeId × Value → H} {W : World} {base : Nat} {v : Value} {d : DataW H} {p : List MemPlace} (hv : Value.okWide Try.prog W .any base 22 v)
    (h : DataW.Trod enc Try.prog W 0 (fun _ => true) true 22 v d p) (hs : ∀ elems spare, d = .slice elems spare → (elems.length + spare.length) * Try.prog.bytesOf 32 ≤ 140737488351232) :
    ∃ a len cap, v = .slice a len cap ∧ len * 16 ≤ 140737488351232 ∧ ∀ i, i < len → CallAt W a i := by
  obtain ⟨a, len, cap, rfl⟩ := okWide_slice Try.underlying22 hv
  refine ⟨a, len, cap, rfl, ?_⟩
  obtain ⟨fuel, hf⟩ := h
  rcases open_slice_fields Try.underlying22 Try.underlying32 (by kernel_rfl) (by kernel_rfl) hf with ⟨hcs, _⟩ | ⟨x, l, c, m, D, Pl, hcs, _, hl, hm, hmm, hx, hi⟩
  · simp [Value.cells] at hcs
    obtain ⟨rfl, rfl, rfl⟩ := hcs
    exact ⟨by simp, fun i h => absurd h (by omega)⟩
  · simp [Value.cells] at hcs
    obtain ⟨rfl, rfl, rfl⟩ := hcs
    obtain ⟨hd, _⟩ := Prod.mk.inj hx
    have z := hs _ _ hd
    rw [show Try.prog.bytesOf 32 = 16 from by kernel_rfl] at z
    simp only [List.length_map, List.length_range] at z
    have hmc : m = cap := by simpa using hmm
    refine ⟨by omega, fun i hil => ?_⟩
    obtain ⟨ys, n, _, _, _, hj⟩ := hi i (by omega)
    obtain ⟨v0, y0, hc0, _, ht0⟩ := hj 0 _ rfl
    obtain ⟨v1, y1, hc1, _, ht1⟩ := hj 1 _ rfl
    obtain ⟨wh, e0, _, wf0⟩ := DataW.trod_int Try.underlying5 ht0
    obtain ⟨xx, e1, _, wf1⟩ := DataW.trod_int Try.underlying3 ht1
    simp at e0 e1
    subst e0 e1
    have hb := bounds_u8 wf0
    have hcell : W.cell? (x.add (i * 2)) = some (.int .u8 wh) := hc0
    refine ⟨x, rfl, ?_, wh, xx, by omega, by omega, hcell, hc1⟩
    have := World.block_lt_of_cell? W _ hcell
    rwa [add_block] at this

theorem queuePlays_walk (w : World) (size : Int) (_h0 : (Lit.int .i64 size).wf = true) (a : Option Addr) (len cap : Nat) (h : len * 16 ≤ 140737488351232 ∧ ∀ i, i < len → CallAt w a i) :
    Calls Try.prog 3 #[.int .i64 size, .slice a len cap] w fun e w' => e = .returned (.bool true) ∧ Below w.heap.size w w' := by
  by_cases hs : size < 1 ∨ 65536 < size
  · exact queuePlays_bad size hs a len cap w
  · obtain ⟨n, rfl⟩ := Int.eq_ofNat_of_zero_le (show 0 ≤ size by omega)
    exact queuePlays_good n (by omega) (by omega) a len cap w h.1 h.2
end Go.Proofs.Ytonekffcanlmeaa
