/- What was put, and not refused, comes out once, in the same order: the walk of QueueOrder. -/
import Derived.Test.YtonekffcanlmeaaQc
import Derived.Test.YtonekffcanlmeaaWd
import Derived.Lib.Hide
import Derived.Maps.AppendAt
import Derived.Laws.AppendOwnNone
namespace Go.Proofs.Ytonekffcanlmeaa
open Go.Conc Go.RowKit

theorem add_block (a : Addr) (n : Nat) : (a.add n).block = a.block := by unfold Addr.add; split <;> rfl
theorem Only.cell' {S : Nat → Prop} {w w' : World} (h : Only S w w') {p : Addr} {v : Value} (hc : w.cell? p = some v) (hp : ¬ S p.block) : w'.cell? p = some v :=
  (World.cell?_of_block (h.block _ (World.block_lt_of_cell? w p hc) hp)).trans hc

/-- Texts as cells. -/
def strs (l : List ByteArray) : List Value := l.map Value.string
theorem strs_length (l : List ByteArray) : (strs l).length = l.length := by simp [strs]
theorem strs_append (l m : List ByteArray) : strs (l ++ m) = strs l ++ strs m := by simp [strs]
theorem strs_all (l : List ByteArray) : ∀ u ∈ strs l, ∃ n : ByteArray, u = .string n := by
  intro u hu
  simp [strs] at hu
  obtain ⟨a, _, rfl⟩ := hu
  exact ⟨a, rfl⟩

/-- What holds at each round: the queue, the two rows, and what stands in them. -/
structure Ord (w0 : World) (size : Nat) (wr : World) (vin vout : Value) (ins outs waits : List ByteArray) : Prop where
  hq : QAt wr 63 (w0.heap.size + 1) w0.heap.size size (strs waits)
  hin : wr.ownsRow (w0.heap.size + 2) 9 1 vin ins.length (strs ins)
  hout : wr.ownsRow (w0.heap.size + 2) 9 1 vout outs.length (strs outs)
  hne : vin.ownBlock = none ∨ vin.ownBlock ≠ vout.ownBlock
  below : Below w0.heap.size w0 wr
  eq : ins = outs ++ waits
  fits : waits.length ≤ size

theorem own_some {w : World} {base e size n : Nat} {v : Value} {xs : List Value} (h : w.ownsRow base e size v n xs) {k : Nat} (hk : v.ownBlock = some k) : base ≤ k ∧ k < w.heap.size := h.lt k hk
theorem own_grow_other {w w1 : World} {ob : Obj} {base e size n : Nat} {v v1 : Value} {xs : List Value} (h : w.ownsRow base e size v n xs) (hg : (w.alloc ob).grownBy w1 v1.ownBlock) (hne : v.ownBlock = none ∨ v.ownBlock ≠ v1.ownBlock) : w1.ownsRow base e size v n xs :=
  (h.alloc ob).kept hg hne

/-- The queue's blocks stand below the rows'. -/
theorem QAt.grow_above {w w1 : World} {ob : Obj} {T b c cap : Nat} {l : List Value} {row : Option Nat} (hq : QAt w T b c cap l) (hg : (w.alloc ob).grownBy w1 row) (hr : ∀ k, row = some k → b < k ∧ c < k) : QAt w1 T b c cap l := by
  have hb := hq.ltb
  have hc := hq.ltc
  obtain ⟨hb', s, r, hc'⟩ := hq
  refine ⟨?_, s, r, ?_⟩
  · rw [hg.block b (by simp; omega) (fun e => by have := hr b e.symm; omega), Below.heap_alloc _ _ _ hb]; exact hb'
  · rw [hg.block c (by simp; omega) (fun e => by have := hr c e.symm; omega), Below.heap_alloc _ _ _ hc]; exact hc'

theorem QAt.grow_row {w w1 : World} {T b c cap : Nat} {l : List Value} {row : Option Nat} (hq : QAt w T b c cap l) (hg : w.grownBy w1 row) (hr : ∀ k, row = some k → b < k ∧ c < k) : QAt w1 T b c cap l := by
  have hb := hq.ltb
  have hc := hq.ltc
  obtain ⟨hb', s, r, hc'⟩ := hq
  exact ⟨(hg.block b hb (fun e => by have := hr b e.symm; omega)).trans hb', s, r, (hg.block c hc (fun e => by have := hr c e.symm; omega)).trans hc'⟩
theorem own_drewN {w : World} {base n : Nat} {e : TypeId} {size : Nat} {v : Value} {xs : List Value} (h : w.ownsRow base e size v n xs) (k : Nat) : (w.drewN k).ownsRow base e size v n xs := h
theorem below_drewN' {B : Nat} {w W : World} (h : Below B w W) (n : Nat) : Below B w (W.drewN n) := ⟨h.os, h.tape, h.output, h.size, h.block⟩
/-- The shape of whatever is owned. -/
theorem own_slice {w : World} {base n : Nat} {e : TypeId} {size : Nat} {v : Value} {xs : List Value} (h : w.ownsRow base e size v n xs) : ∃ A c, v = .slice A n c := by
  rcases h.2 with ⟨rfl, rfl⟩ | ⟨g, cap, cur, rfl, _⟩
  · exact ⟨none, 0, rfl⟩
  · exact ⟨_, cap, rfl⟩
/-- A cell of what is owned. -/
theorem own_at {w : World} {base n c : Nat} {e : TypeId} {A : Option Addr} {xs : List Value} (h : w.ownsRow base e 1 (.slice A n c) n xs) (k : Nat) (hk : k < n) : ∃ x u, A = some x ∧ xs[k]? = some u ∧ w.cell? (x.add k) = some u := by
  obtain ⟨g, cap, hv, _, _⟩ := h.form (by omega)
  have hl : k < xs.length := by have := h.1; omega
  injection hv with hA
  subst hA
  exact ⟨_, _, rfl, List.getElem?_eq_getElem hl, h.cells (g := g) rfl k _ (List.getElem?_eq_getElem hl)⟩

section
variable {w0 wr w1 w2 : World} {size : Nat} {vin vout : Value} {ins outs waits : List ByteArray}
theorem Ord.put_no (h : Ord w0 size wr vin vout ins outs waits) (hq : QAt w1 63 (w0.heap.size + 1) w0.heap.size size (strs waits)) (ho : Only (· = w0.heap.size) wr w1) : Ord w0 size w1 vin vout ins outs waits :=
  ⟨hq, own_only h.hin h.hq ho, own_only h.hout h.hq ho, h.hne, h.below.trans (ho.below (fun k hk => by omega) (by have := h.below.size; omega)), h.eq, h.fits⟩
theorem Ord.put_yes (h : Ord w0 size wr vin vout ins outs waits) (x : ByteArray) (hx : waits.length < size) (hq : QAt w1 63 (w0.heap.size + 1) w0.heap.size size (strs waits ++ [.string x])) (ho : Only (· = w0.heap.size) wr w1)
    {v1 : Value} (hg : (w1.alloc (.cells #[.string x] 9)).grownBy w2 vin.ownBlock) (hown : w2.ownsRow (w0.heap.size + 2) 9 1 v1 (ins.length + 1) (strs ins ++ [.string x])) (hat : v1.ownBlock = vin.ownBlock ∨ v1.ownBlock = some (w1.heap.size + 1)) :
    Ord w0 size w2 v1 vout (ins ++ [x]) outs (waits ++ [x]) := by
  have hin1 := own_only h.hin h.hq ho
  have hout1 := own_only h.hout h.hq ho
  have hb1 : Below w0.heap.size w0 w1 := h.below.trans (ho.below (fun k hk => by omega) (by have := h.below.size; omega))
  have hs := hb1.size
  refine ⟨?_, by simpa [strs] using hown, ?_, ?_, ?_, by rw [h.eq, List.append_assoc], by simp; omega⟩
  · have := hq.grow_above hg (fun k hk => by have := own_some hin1 hk; omega)
    simpa [strs] using this
  · refine own_grow_other hout1 hg ?_
    rcases h.hne with h1 | h1
    · rw [h1]
      cases vout.ownBlock <;> simp
    · exact .inr (Ne.symm h1)
  · rcases hat with h1 | h1
    · rw [h1]; exact h.hne
    · refine .inr fun he => ?_
      rw [h1] at he
      have := own_some hout1 he.symm
      omega
  · exact (hb1.alloc (by omega) _).grown hg (by simp; omega) (fun k hk => by have := own_some hin1 hk; omega)
theorem Ord.take {x : ByteArray} (h : Ord w0 size wr vin vout ins outs (x :: waits)) (hq : QAt w1 63 (w0.heap.size + 1) w0.heap.size size (strs waits)) (ho : Only (· = w0.heap.size) wr w1)
    {v1 : Value} (hg : (w1.alloc (.cells #[.string x] 9)).grownBy w2 vout.ownBlock) (hown : w2.ownsRow (w0.heap.size + 2) 9 1 v1 (outs.length + 1) (strs outs ++ [.string x])) (hat : v1.ownBlock = vout.ownBlock ∨ v1.ownBlock = some (w1.heap.size + 1)) :
    Ord w0 size w2 vin v1 ins (outs ++ [x]) waits := by
  have hin1 := own_only h.hin h.hq ho
  have hout1 := own_only h.hout h.hq ho
  have hb1 : Below w0.heap.size w0 w1 := h.below.trans (ho.below (fun k hk => by omega) (by have := h.below.size; omega))
  have hs := hb1.size
  have hf := h.fits
  refine ⟨?_, ?_, by simpa [strs] using hown, ?_, ?_, by rw [h.eq, List.append_assoc]; rfl, by simp at hf; omega⟩
  · exact hq.grow_above hg (fun k hk => by have := own_some hout1 hk; omega)
  · exact own_grow_other hin1 hg h.hne
  · rcases hat with h1 | h1
    · rw [h1]; exact h.hne
    · rcases hv : vin.ownBlock with _ | k
      · exact .inl rfl
      · refine .inr fun he => ?_
        rw [h1] at he
        have := own_some hin1 hv
        injection he with he
        omega
  · exact (hb1.alloc (by omega) _).grown hg (by simp; omega) (fun k hk => by have := own_some hout1 hk; omega)
theorem Ord.take_no (h : Ord w0 size wr vin vout ins outs []) (hq : QAt w1 63 (w0.heap.size + 1) w0.heap.size size (strs [])) (ho : Only (· = w0.heap.size) wr w1) : Ord w0 size w1 vin vout ins outs [] := h.put_no hq ho
end
end Go.Proofs.Ytonekffcanlmeaa
