/- The script of calls, read off the arguments. -/
import Derived.Test.YtjdobemljghkbaaTp
import Derived.Deep.Slices
import Derived.ChangeSame
import Derived.WideLaws
import Derived.OpenShut
import Derived.SizedLaws
namespace Go.Proofs.Ytjdobemljghkbaa
open Go.ChangeShapes Go.WideShapes Go.RowKit Go.Deep

theorem weightsAll_in {H : Type} {P : Program} {e : TypeId} : ∀ {l : List (DataW H)} {d : DataW H}, d ∈ l → ∀ n ∈ d.weights P e, n ∈ DataW.weightsAll P e l
  | x :: l, d, h, n, hn => by
    simp only [DataW.weightsAll, List.mem_append]
    rcases List.mem_cons.1 h with rfl | h
    · exact .inl hn
    · exact .inr (weightsAll_in h n hn)
theorem int_bounds {h : Int} (wf : (Lit.int .i64 h).wf = true) : -9223372036854775808 ≤ h ∧ h ≤ 9223372036854775807 := by
  have h2 : IntKind.i64.min ≤ h ∧ h ≤ IntKind.i64.max := by simpa [Lit.wf] using wf
  have h3 : IntKind.i64.min = -9223372036854775808 := by decide
  have h4 : IntKind.i64.max = 9223372036854775807 := by decide
  omega
theorem four_of {α : Type} : ∀ {l : List α}, l.length = 4 → ∃ a b c d, l = [a, b, c, d]
  | [a, b, c, d], _ => ⟨a, b, c, d, rfl⟩
theorem three_of {α : Type} : ∀ {l : List α}, l.length = 3 → ∃ a b c, l = [a, b, c]
  | [a, b, c], _ => ⟨a, b, c, rfl⟩
theorem two_of {α : Type} : ∀ {l : List α}, l.length = 2 → ∃ a b, l = [a, b]
  | [a, b], _ => ⟨a, b, rfl⟩

theorem open_calls {H : Type} {enc : TypeId × Value → H} {W : World} {base : Nat} {v : Value} {d : DataW H} {p : List MemPlace} (hv : Value.okWide Try.prog W .any base 50 v)
    (h : DataW.Trod enc Try.prog W 0 (fun _ => true) true 50 v d p) (hs : ∀ n ∈ d.weights Try.prog 50, n ≤ 140737488351232) :
    ∃ a len cap, v = .slice a len cap ∧ len * 48 ≤ 140737488351232 ∧ ∀ i, i < len → CallAt W a i := by
  obtain ⟨a, len, cap, rfl⟩ := okWide_slice Try.underlying50 hv
  refine ⟨a, len, cap, rfl, ?_⟩
  obtain ⟨fuel, hf⟩ := h
  rcases open_slice Try.underlying50 hf with ⟨hcs, _⟩ | ⟨x, l, c, m, n, D, Pl, hcs, _, hl, hm, hmm, hx, hi⟩
  · simp [Value.cells] at hcs
    obtain ⟨rfl, rfl, rfl⟩ := hcs
    exact ⟨by simp, fun i h => absurd h (by omega)⟩
  · simp [Value.cells] at hcs
    obtain ⟨rfl, rfl, rfl⟩ := hcs
    obtain ⟨hd, _⟩ := Prod.mk.inj hx
    subst hd
    have z := hs _ (by rw [DataW.weights, Try.underlying50]; exact List.mem_cons_self)
    have hall : ∀ i, i < len → ∀ n ∈ (D i).weights Try.prog 52, n ≤ 140737488351232 := by
      intro i hil n hn
      refine hs n ?_
      rw [DataW.weights, Try.underlying50]
      exact List.mem_cons_of_mem _ (List.mem_append_left _ (weightsAll_in (List.mem_map.2 ⟨i, List.mem_range.2 hil, rfl⟩) n hn))
    rw [show Try.prog.bytesOf 52 = 48 from by kernel_rfl] at z
    rw [show Try.prog.cellsOf 52 = 4 from by kernel_rfl] at hi
    simp only [List.length_map, List.length_range] at z
    have hmc : m = cap := by simpa using hmm
    refine ⟨by omega, fun i hil => ?_⟩
    obtain ⟨cs', hc, ht⟩ := hi i (by omega)
    obtain ⟨xs, n', hn', hy, hlen, hxl, hfs⟩ := DataW.trod_struct Try.underlying52 ht
    obtain ⟨_, hcl, hat⟩ := World.cells?_some hc
    obtain ⟨c0, c1, c2, c3, rfl⟩ := four_of hcl
    obtain ⟨x0, x1, x2, rfl⟩ := three_of hxl
    have h0 : DataW.trod enc Try.prog W 0 (fun _ => true) true n' 5 (([c0, c1, c2, c3].drop 0).take (Try.prog.cellsOf 5)) = some x0 := hfs 0 _ rfl
    have h1 : DataW.trod enc Try.prog W 0 (fun _ => true) true n' 3 (([c0, c1, c2, c3].drop 1).take (Try.prog.cellsOf 3)) = some x1 := hfs 1 _ rfl
    have h2 : DataW.trod enc Try.prog W 0 (fun _ => true) true n' 30 (([c0, c1, c2, c3].drop 2).take (Try.prog.cellsOf 30)) = some x2 := hfs 2 _ rfl
    rw [show Try.prog.cellsOf 5 = 1 from by kernel_rfl] at h0
    rw [show Try.prog.cellsOf 3 = 1 from by kernel_rfl] at h1
    rw [show Try.prog.cellsOf 30 = 2 from by kernel_rfl] at h2
    obtain ⟨wh, e0, f0, wf0⟩ := DataW.trod_int Try.underlying5 h0
    obtain ⟨nn, e1, f1, wf1⟩ := DataW.trod_int Try.underlying3 h1
    obtain ⟨ys, n2, _, hy2, _, hyl, hfs2⟩ := DataW.trod_struct Try.underlying30 h2
    obtain ⟨y0, y1, rfl⟩ := two_of hyl
    have h3 : DataW.trod enc Try.prog W 0 (fun _ => true) true n2 9 (([c2, c3].drop 0).take (Try.prog.cellsOf 9)) = some y0 := hfs2 0 _ rfl
    have h4 : DataW.trod enc Try.prog W 0 (fun _ => true) true n2 9 (([c2, c3].drop 1).take (Try.prog.cellsOf 9)) = some y1 := hfs2 1 _ rfl
    rw [show Try.prog.cellsOf 9 = 1 from by kernel_rfl] at h3 h4
    obtain ⟨s, e3, f3, _⟩ := DataW.trod_string Try.underlying9 h3
    obtain ⟨t, e4, f4, _⟩ := DataW.trod_string Try.underlying9 h4
    simp at e0 e1 e3 e4
    subst e0 e1 e3 e4 f0 f1 f3 f4 hy2
    have hD : D i = _ := (Prod.mk.inj hy).1
    have hw := hall i hil
    rw [hD] at hw
    have b3 := hw s.data.toList.length (by simp [DataW.weights, DataW.weightsEach, Try.underlying52, Try.underlying30])
    have b4 := hw t.data.toList.length (by simp [DataW.weights, DataW.weightsEach, Try.underlying52, Try.underlying30])
    have u3 : s.data.toList.length = s.size := by rw [Array.length_toList]; rfl
    have u4 : t.data.toList.length = t.size := by rw [Array.length_toList]; rfl
    have hb := bounds_u8 wf0
    have hb1 := int_bounds wf1
    have k0 := hat 0 (by simp)
    have k1 := hat 1 (by simp)
    have k2 := hat 2 (by simp)
    have k3 := hat 3 (by simp)
    rw [add_add] at k0 k1 k2 k3
    have hcell : W.cell? (x.add (i * 4)) = some (.int .u8 wh) := k0
    refine ⟨x, rfl, ?_, wh, nn, s, t, ⟨by omega, by omega⟩, hb1, ⟨by show s.size ≤ _; omega, by show t.size ≤ _; omega⟩, hcell, k1, k2, k3⟩
    have := World.block_lt_of_cell? W _ hcell
    rwa [add_block] at this
end Go.Proofs.Ytjdobemljghkbaa
