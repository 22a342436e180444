/- Lists of deeds, read off the arguments. -/
import Derived.Test.YtmjibpjnhehnnaaOf
namespace Go.Proofs.Ytmjibpjnhehnnaa
open Go.ChangeShapes Go.WideShapes Go.RowKit Go.Deep

/-- A deed that can be read. -/
def DeedOn (W : World) (a : Option Addr) (i : Nat) : Prop :=
  ∃ x : Addr, a = some x ∧ x.block < W.heap.size ∧ ∃ (s : Bool) (n : Int) (t : ByteArray) (A : Option Addr) (len cap : Nat) (fs : List Tk.Fd), W.cell? (x.add (i * 4)) = some (.bool s) ∧ W.cell? (x.add (i * 4 + 1)) = some (.int .i64 n) ∧ W.cell? (x.add (i * 4 + 2)) = some (.string t) ∧ W.cell? (x.add (i * 4 + 3)) = some (.slice A len cap) ∧
    FRow W A len fs ∧ (A = none → cap = 0) ∧ Small len fs 0
theorem Small.zero {n bulk : Nat} {fs : List Tk.Fd} (h : Small n fs bulk) (hb : bulk ≤ 1048576) : Small n fs 0 := fun _ => h hb
theorem open_deeds {H : Type} {enc : TypeId × Value → H} {W : World} {v : Value} {d : DataW H} {p : List MemPlace} {a : Option Addr} {len cap : Nat} (hv : v = .slice a len cap)
    (h : DataW.Trod enc Try.prog W 0 (fun _ => true) true 39 v d p) : Rows.uptoBulk d ≤ 1048576 → len ≤ 1048576 ∧ ∀ i, i < len → DeedOn W a i := by
  subst hv
  obtain ⟨fuel, hf⟩ := h
  intro hb
  rcases open_slice Try.underlying39 hf with ⟨hcs, _⟩ | ⟨y, l, c, m, n, D, Pl, hcs, _, hl, hm, hmm, hx, hi⟩
  · simp [Value.cells] at hcs
    obtain ⟨rfl, rfl, rfl⟩ := hcs
    exact ⟨by omega, fun i h => absurd h (by omega)⟩
  · simp [Value.cells] at hcs
    obtain ⟨rfl, rfl, rfl⟩ := hcs
    obtain ⟨hd, _⟩ := Prod.mk.inj hx
    subst hd
    rw [show Try.prog.cellsOf 43 = 4 from by kernel_rfl] at hi
    have hmc : m = cap := by simpa using hmm
    have hb1 : Rows.uptoBulkAll ((List.range len).map D) ≤ 1048576 := by simp only [Rows.uptoBulk] at hb; omega
    refine ⟨?_, fun i hil => ?_⟩
    · have := bulk_len ((List.range len).map D)
      rw [List.length_map, List.length_range] at this
      omega
    have hbi := bulk_mem (List.mem_map.2 ⟨i, List.mem_range.2 hil, rfl⟩ : D i ∈ (List.range len).map D)
    obtain ⟨cs', hc, ht⟩ := hi i (by omega)
    obtain ⟨xs, n', hn', hy, hlen, hxl, hfs⟩ := DataW.trod_struct Try.underlying43 ht
    obtain ⟨_, hcl, hat⟩ := World.cells?_some hc
    obtain ⟨c0, c1, c2, c3, rfl⟩ := four_of hcl
    obtain ⟨x0, x1, x2, x3, rfl⟩ := four_of hxl
    have h0 : DataW.trod enc Try.prog W 0 (fun _ => true) true n' 4 (([c0, c1, c2, c3].drop 0).take (Try.prog.cellsOf 4)) = some x0 := hfs 0 _ rfl
    have h1 : DataW.trod enc Try.prog W 0 (fun _ => true) true n' 3 (([c0, c1, c2, c3].drop 1).take (Try.prog.cellsOf 3)) = some x1 := hfs 1 _ rfl
    have h2 : DataW.trod enc Try.prog W 0 (fun _ => true) true n' 9 (([c0, c1, c2, c3].drop 2).take (Try.prog.cellsOf 9)) = some x2 := hfs 2 _ rfl
    have h3 : DataW.trod enc Try.prog W 0 (fun _ => true) true n' 28 (([c0, c1, c2, c3].drop 3).take (Try.prog.cellsOf 28)) = some x3 := hfs 3 _ rfl
    rw [show Try.prog.cellsOf 4 = 1 from by kernel_rfl] at h0
    rw [show Try.prog.cellsOf 3 = 1 from by kernel_rfl] at h1
    rw [show Try.prog.cellsOf 9 = 1 from by kernel_rfl] at h2
    rw [show Try.prog.cellsOf 28 = 1 from by kernel_rfl] at h3
    obtain ⟨b, e0, _⟩ := DataW.trod_bool Try.underlying4 h0
    obtain ⟨k, e1, _, _⟩ := DataW.trod_int Try.underlying3 h1
    obtain ⟨s, e2, _, _⟩ := DataW.trod_string Try.underlying9 h2
    obtain ⟨A, ln, cp, fs, e3, hr, hnil, hsm⟩ := open_row h3
    simp at e0 e1 e2 e3
    subst e0 e1 e2 e3
    have hD : D i = _ := (Prod.mk.inj hy).1
    have hb3 : Rows.uptoBulk x3.1 ≤ 1048576 := by
      rw [hD] at hbi
      simp only [List.map_cons, List.map_nil, Rows.uptoBulk, Rows.uptoBulkAll] at hbi
      omega
    have k0 := hat 0 (by simp)
    have k1 := hat 1 (by simp)
    have k2 := hat 2 (by simp)
    have k3 := hat 3 (by simp)
    rw [add_add2] at k0 k1 k2 k3
    have hcell : W.cell? (y.add (i * 4)) = some (.bool b) := k0
    have hlt := World.block_lt_of_cell? W _ hcell
    rw [add_block] at hlt
    exact ⟨y, rfl, hlt, b, k, s, A, ln, cp, fs, hcell, k1, k2, k3, hr, hnil, hsm.zero hb3⟩
end Go.Proofs.Ytmjibpjnhehnnaa
