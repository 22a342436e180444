/- The bulk of an input bounds its parts. Lists of fields and of deeds, read off the arguments. Lists of deeds, read off the arguments. -/
import Derived.Test.YtmjibpjnhehnnaaRows
import Derived.Test.YtmjibpjnhehnnaaKq
import Derived.Test.YtmjibpjnhehnnaaKo
import Derived.Deep.Slices
import Derived.ChangeSame
import Derived.WideLaws
import Derived.OpenShut
import Derived.SizedLaws
/-! The bulk of an input bounds its parts. -/
namespace Go.Proofs.Ytmjibpjnhehnnaa
theorem bulk_len {H : Type} (l : List (DataW H)) : l.length ≤ Rows.uptoBulkAll l := by
  induction l with
  | nil => exact Nat.zero_le _
  | cons d r ih =>
    have h1 : 1 ≤ Rows.uptoBulk d := by
      cases d with
      | lit x => cases x <;> simp [Rows.uptoBulk]
      | _ => simp [Rows.uptoBulk]
    rw [Rows.uptoBulkAll, List.length_cons]
    omega
theorem bulk_mem {H : Type} {l : List (DataW H)} {d : DataW H} (h : d ∈ l) : Rows.uptoBulk d ≤ Rows.uptoBulkAll l := by
  induction l with
  | nil => cases h
  | cons x r ih =>
    rw [Rows.uptoBulkAll]
    rcases List.mem_cons.1 h with rfl | h
    · omega
    · have := ih h; omega
end Go.Proofs.Ytmjibpjnhehnnaa

/-! Lists of fields and of deeds, read off the arguments. -/
namespace Go.Proofs.Ytmjibpjnhehnnaa
open Go.ChangeShapes Go.WideShapes Go.RowKit Go.Deep

theorem two_of {α : Type} : ∀ {l : List α}, l.length = 2 → ∃ a b, l = [a, b]
  | [a, b], _ => ⟨a, b, rfl⟩
theorem four_of {α : Type} : ∀ {l : List α}, l.length = 4 → ∃ a b c d, l = [a, b, c, d]
  | [a, b, c, d], _ => ⟨a, b, c, d, rfl⟩
theorem add_add2 (x : Addr) (a b : Nat) : (x.add a).add b = x.add (a + b) := by
  unfold Addr.add
  by_cases h1 : a = 0
  · subst h1; simp
  · by_cases h2 : b = 0
    · subst h2; simp [h1]
    · rw [if_neg h1, if_neg h2, if_neg (by omega)]
      simp only [Nat.add_assoc]
/-- Bounded fields. -/
def Small (n : Nat) (fs : List Tk.Fd) (bulk : Nat) : Prop := bulk ≤ 1048576 → n ≤ 1048576 ∧ Tk.sum fs ≤ 33554432 ∧ Hk.size fs ≤ 16777216 ∧ ∀ f ∈ fs, Hk.Short f
theorem open_row {H : Type} {enc : TypeId × Value → H} {W : World} {fuel : Nat} {cs : List Value} {x : DataW H × List MemPlace}
    (h : DataW.trod enc Try.prog W 0 (fun _ => true) true fuel 28 cs = some x) :
    ∃ a len cap fs, cs = [.slice a len cap] ∧ FRow W a len fs ∧ (a = none → cap = 0) ∧ Small len fs (Rows.uptoBulk x.1) := by
  rcases open_slice Try.underlying28 h with ⟨rfl, rfl⟩ | ⟨y, len, cap, m, n, D, Pl, rfl, _, hl, hm, hmm, rfl, hi⟩
  · refine ⟨none, 0, 0, [], rfl, ⟨rfl, fun i h => absurd h (by omega)⟩, fun _ => rfl, fun _ => ⟨by omega, by decide, by decide, fun f hf => by cases hf⟩⟩
  rw [show Try.prog.cellsOf 57 = 2 from by kernel_rfl] at hi
  have hmc : m = cap := by simpa using hmm
  subst hmc
  have hone : ∀ i, i < m → ∃ s t : ByteArray, W.cell? (y.add (i * 2)) = some (.string s) ∧ W.cell? (y.add (i * 2 + 1)) = some (.string t) ∧ D i = .agg [.lit (.string s.data.toList), .lit (.string t.data.toList)] := by
    intro i hil
    obtain ⟨cs', hc, ht⟩ := hi i hil
    obtain ⟨xs, n', hn', hy, hlen, hxl, hfs⟩ := DataW.trod_struct Try.underlying57 ht
    obtain ⟨_, hcl, hat⟩ := World.cells?_some hc
    obtain ⟨c0, c1, rfl⟩ := two_of hcl
    obtain ⟨x0, x1, rfl⟩ := two_of hxl
    have h0 : DataW.trod enc Try.prog W 0 (fun _ => true) true n' 9 (([c0, c1].drop 0).take (Try.prog.cellsOf 9)) = some x0 := hfs 0 _ rfl
    have h1 : DataW.trod enc Try.prog W 0 (fun _ => true) true n' 9 (([c0, c1].drop 1).take (Try.prog.cellsOf 9)) = some x1 := hfs 1 _ rfl
    rw [show Try.prog.cellsOf 9 = 1 from by kernel_rfl] at h0 h1
    obtain ⟨s, e3, f3, _⟩ := DataW.trod_string Try.underlying9 h0
    obtain ⟨t, e4, f4, _⟩ := DataW.trod_string Try.underlying9 h1
    simp at e3 e4
    subst e3 e4 f3 f4
    have k0 := hat 0 (by simp)
    have k1 := hat 1 (by simp)
    rw [add_add2] at k0 k1
    exact ⟨s, t, k0, k1, (Prod.mk.inj hy).1⟩
  have htotal : ∀ i, ∃ f : Tk.Fd, i < m → W.cell? (y.add (i * 2)) = some (.string f.1) ∧ W.cell? (y.add (i * 2 + 1)) = some (.string f.2) ∧ D i = .agg [.lit (.string f.1.data.toList), .lit (.string f.2.data.toList)] := by
    intro i
    by_cases hil : i < m
    · obtain ⟨s, t, h⟩ := hone i hil
      exact ⟨(s, t), fun _ => h⟩
    · exact ⟨Tk.nil, fun h => absurd h hil⟩
  obtain ⟨F, hF⟩ := Classical.axiomOfChoice htotal
  have hget : ∀ i, i < len → ((List.range len).map F).getD i Tk.nil = F i := by
    intro i hil
    rw [List.getD_eq_getElem?_getD, List.getElem?_map, List.getElem?_range hil]
    rfl
  refine ⟨some y, len, m, (List.range len).map F, rfl, ⟨by simp, fun i hil => ?_⟩, (fun h => by cases h), fun hb => ?_⟩
  · obtain ⟨h1, h2, _⟩ := hF i (by omega)
    have hlt := World.block_lt_of_cell? W _ h1
    rw [add_block] at hlt
    exact ⟨y, rfl, hlt, by rw [hget i hil]; exact h1, by rw [hget i hil]; exact h2⟩
  · have hb1 : Rows.uptoBulkAll ((List.range len).map D) ≤ 1048576 := by simp only [Rows.uptoBulk] at hb; omega
    have hkey : ∀ l : List Nat, (∀ i ∈ l, i < m) → l.length ≤ Rows.uptoBulkAll (l.map D) ∧ Tk.sum (l.map F) ≤ 32 * Rows.uptoBulkAll (l.map D) ∧ Hk.size (l.map F) ≤ 16 * Rows.uptoBulkAll (l.map D) ∧ ∀ f ∈ l.map F, f.1.size ≤ Rows.uptoBulkAll (l.map D) ∧ f.2.size ≤ Rows.uptoBulkAll (l.map D) := by
      intro l
      induction l with
      | nil => exact fun _ => ⟨Nat.zero_le _, Nat.zero_le _, Nat.zero_le _, fun f hf => by cases hf⟩
      | cons i l ih =>
        intro hl
        obtain ⟨a1, a2, a3, a4⟩ := ih (fun j hj => hl j (List.mem_cons_of_mem _ hj))
        obtain ⟨_, _, hD⟩ := hF i (hl i (List.mem_cons_self ..))
        have u3 : (F i).1.data.toList.length = (F i).1.size := by rw [Array.length_toList]; rfl
        have u4 : (F i).2.data.toList.length = (F i).2.size := by rw [Array.length_toList]; rfl
        have hbl : Rows.uptoBulk (D i) = (F i).1.size + (F i).2.size + 3 := by
          rw [hD]; simp only [Rows.uptoBulk, Rows.uptoBulkAll]; omega
        have hsz : Hk.size (F i :: l.map F) = (F i).1.size + (F i).2.size + 16 + Hk.size (l.map F) := rfl
        have hwt : Tk.wt (F i) = (F i).1.size + (F i).2.size + 32 := by unfold Tk.wt; omega
        simp only [List.map_cons, Rows.uptoBulkAll, List.length_cons]
        rw [hbl, hsz, Tk.sum_cons, hwt]
        refine ⟨by omega, by omega, by omega, fun f hf => ?_⟩
        rcases List.mem_cons.1 hf with rfl | hf
        · exact ⟨by omega, by omega⟩
        · have := a4 f hf
          exact ⟨by omega, by omega⟩
    obtain ⟨a1, a2, a3, a4⟩ := hkey (List.range len) (fun i hi => by have := List.mem_range.1 hi; omega)
    rw [List.length_range] at a1
    refine ⟨by omega, by omega, by omega, fun f hf => ?_⟩
    have := a4 f hf
    exact ⟨by omega, by omega⟩
theorem open_fields {H : Type} {enc : TypeId × Value → H} {W : World} {v : Value} {d : DataW H} {p : List MemPlace} {a : Option Addr} {len cap : Nat} (hv : v = .slice a len cap)
    (h : DataW.Trod enc Try.prog W 0 (fun _ => true) true 28 v d p) : ∃ fs, FRow W a len fs ∧ (a = none → cap = 0) ∧ Small len fs (Rows.uptoBulk d) := by
  subst hv
  obtain ⟨fuel, hf⟩ := h
  obtain ⟨a', len', cap', fs, hcs, h1, h2, h3⟩ := open_row hf
  simp [Value.cells] at hcs
  obtain ⟨rfl, rfl, rfl⟩ := hcs
  exact ⟨fs, h1, h2, h3⟩
/-- A deed that can be read. -/
def DeedAt (W : World) (x : Addr) (dl : Bool × Int × List Tk.Fd) : Prop :=
  ∃ s : ByteArray, ∃ a n c, W.cell? x = some (.bool dl.1) ∧ W.cell? (x.add 1) = some (.int .i64 dl.2.1) ∧ W.cell? (x.add 2) = some (.string s) ∧ W.cell? (x.add 3) = some (.slice a n c) ∧ FRow W a n dl.2.2 ∧ (a = none → c = 0) ∧ n ≤ 1048576 ∧ Tk.sum dl.2.2 ≤ 33554432 ∧ Hk.size dl.2.2 ≤ 16777216 ∧ ∀ f ∈ dl.2.2, Hk.Short f
end Go.Proofs.Ytmjibpjnhehnnaa

/-! Lists of deeds, read off the arguments. -/
namespace Go.Proofs.Ytmjibpjnhehnnaa
open Go.ChangeShapes Go.WideShapes Go.RowKit Go.Deep

/-- A deed that can be read. -/
def DeedOn (W : World) (a : Option Addr) (i : Nat) : Prop :=
  ∃ x : Addr, a = some x ∧ x.block < W.heap.size ∧ ∃ (s : Bool) (n : Int) (t : ByteArray) (A : Option Addr) (len cap : Nat) (fs : List Tk.Fd), W.cell? (x.add (i * 4)) = some (.bool s) ∧ W.cell? (x.add (i * 4 + 1)) = some (.int .i64 n) ∧ W.cell? (x.add (i * 4 + 2)) = some (.string t) ∧ W.cell? (x.add (i * 4 + 3)) = some (.slice A len cap) ∧
    FRow W A len fs ∧ (A = none → cap = 0) ∧ Small len fs 0
theorem Small.zero {n bulk : Nat} {fs : List Tk.Fd} (h : Small n fs bulk) (hb : bulk ≤ 1048576) : Small n fs 0 := fun _ => h hb
theorem open_deeds {H : Type} {enc : TypeId × Value → H} {W : World} {v : Value} {d : DataW H} {p : List MemPlace} {a : Option Addr} {len cap : Nat} (hv : v = .slice a len cap)
    (h : DataW.Trod enc Try.prog W 0 (fun _ => true) true 39 v d p) : Rows.uptoBulk d ≤ 1048576 → len ≤ 1048576 ∧ ∀ i, i < len → DeedOn W a i := by
  subst hv
  obtain ⟨fuel, hf⟩ := h
  intro hb
  rcases open_slice Try.underlying39 hf with ⟨hcs, _⟩ | ⟨y, l, c, m, n, D, Pl, hcs, _, hl, hm, hmm, hx, hi⟩
  · simp [Value.cells] at hcs
    obtain ⟨rfl, rfl, rfl⟩ := hcs
    exact ⟨by omega, fun i h => absurd h (by omega)⟩
  · simp [Value.cells] at hcs
    obtain ⟨rfl, rfl, rfl⟩ := hcs
    obtain ⟨hd, _⟩ := Prod.mk.inj hx
    subst hd
    rw [show Try.prog.cellsOf 43 = 4 from by kernel_rfl] at hi
    have hmc : m = cap := by simpa using hmm
    have hb1 : Rows.uptoBulkAll ((List.range len).map D) ≤ 1048576 := by simp only [Rows.uptoBulk] at hb; omega
    refine ⟨?_, fun i hil => ?_⟩
    · have := bulk_len ((List.range len).map D)
      rw [List.length_map, List.length_range] at this
      omega
    have hbi := bulk_mem (List.mem_map.2 ⟨i, List.mem_range.2 hil, rfl⟩ : D i ∈ (List.range len).map D)
    obtain ⟨cs', hc, ht⟩ := hi i (by omega)
    obtain ⟨xs, n', hn', hy, hlen, hxl, hfs⟩ := DataW.trod_struct Try.underlying43 ht
    obtain ⟨_, hcl, hat⟩ := World.cells?_some hc
    obtain ⟨c0, c1, c2, c3, rfl⟩ := four_of hcl
    obtain ⟨x0, x1, x2, x3, rfl⟩ := four_of hxl
    have h0 : DataW.trod enc Try.prog W 0 (fun _ => true) true n' 4 (([c0, c1, c2, c3].drop 0).take (Try.prog.cellsOf 4)) = some x0 := hfs 0 _ rfl
    have h1 : DataW.trod enc Try.prog W 0 (fun _ => true) true n' 3 (([c0, c1, c2, c3].drop 1).take (Try.prog.cellsOf 3)) = some x1 := hfs 1 _ rfl
    have h2 : DataW.trod enc Try.prog W 0 (fun _ => true) true n' 9 (([c0, c1, c2, c3].drop 2).take (Try.prog.cellsOf 9)) = some x2 := hfs 2 _ rfl
    have h3 : DataW.trod enc Try.prog W 0 (fun _ => true) true n' 28 (([c0, c1, c2, c3].drop 3).take (Try.prog.cellsOf 28)) = some x3 := hfs 3 _ rfl
    rw [show Try.prog.cellsOf 4 = 1 from by kernel_rfl] at h0
    rw [show Try.prog.cellsOf 3 = 1 from by kernel_rfl] at h1
    rw [show Try.prog.cellsOf 9 = 1 from by kernel_rfl] at h2
    rw [show Try.prog.cellsOf 28 = 1 from by kernel_rfl] at h3
    obtain ⟨b, e0, _⟩ := DataW.trod_bool Try.underlying4 h0
    obtain ⟨k, e1, _, _⟩ := DataW.trod_int Try.underlying3 h1
    obtain ⟨s, e2, _, _⟩ := DataW.trod_string Try.underlying9 h2
    obtain ⟨A, ln, cp, fs, e3, hr, hnil, hsm⟩ := open_row h3
    simp at e0 e1 e2 e3
    subst e0 e1 e2 e3
    have hD : D i = _ := (Prod.mk.inj hy).1
    have hb3 : Rows.uptoBulk x3.1 ≤ 1048576 := by
      rw [hD] at hbi
      simp only [List.map_cons, List.map_nil, Rows.uptoBulk, Rows.uptoBulkAll] at hbi
      omega
    have k0 := hat 0 (by simp)
    have k1 := hat 1 (by simp)
    have k2 := hat 2 (by simp)
    have k3 := hat 3 (by simp)
    rw [add_add2] at k0 k1 k2 k3
    have hcell : W.cell? (y.add (i * 4)) = some (.bool b) := k0
    have hlt := World.block_lt_of_cell? W _ hcell
    rw [add_block] at hlt
    exact ⟨y, rfl, hlt, b, k, s, A, ln, cp, fs, hcell, k1, k2, k3, hr, hnil, hsm.zero hb3⟩
end Go.Proofs.Ytmjibpjnhehnnaa
