/- A ring in memory: its three cells ahead of others in one block, its row in a block of its own. -/
import Derived.Test.YtmjibpjnhehnnaaChecked
import Derived.Test.YtmjibpjnhehnnaaOn
import Derived.Deep.OwnRows
import Derived.Deep.LoopGhost
import Derived.Deep.QuietTactic
import Derived.Deep.DeepCutAuto
import Derived.StillTailTactics
import Derived.BigQuiet
import Derived.KernelRfl
import Derived.Lib.Hide
namespace Go.Proofs.Ytmjibpjnhehnnaa
open Go.RowKit

def RingCells (v : Value) (f n : Nat) (rest : List Value) : Array Value := (v :: .int .i64 (f : Int) :: .int .i64 (n : Int) :: rest).toArray
/-- Its row: l's elements, from place f on, round about. -/
def RingRow (w : World) (b : Nat) (te : TypeId) (sz : Nat) (v : Value) (L f : Nat) (l : List (List Value)) : Prop :=
  (v = .slice none 0 0 ∧ L = 0 ∧ f = 0) ∨ ∃ g F, g ≠ b ∧ v = .slice (some ⟨g, 0, none⟩) L L ∧ f < L ∧ w.rowIs g te (L * sz) F ∧ ∀ i x, l[i]? = some x → ∀ j, j < sz → x[j]? = some (F ((f + i) % L * sz + j))
structure RingL (w : World) (b : Nat) (T te : TypeId) (sz : Nat) (rest : List Value) (v : Value) (L f : Nat) (l : List (List Value)) : Prop where
  blk : w.heap[b]? = some (.cells (RingCells v f l.length rest) T (0, 0))
  le : l.length ≤ L
  bd : L ≤ 4000008
  row : RingRow w b te sz v L f l
/-- A ring that holds l, the newest first; g: the block of its row. -/
def Ring (w : World) (b : Nat) (T te : TypeId) (sz : Nat) (rest : List Value) (g : Option Nat) (l : List (List Value)) : Prop := ∃ v L f, v.ownBlock = g ∧ RingL w b T te sz rest v L f l

theorem cell_of_blk {w : World} {b : Nat} {cs : Array Value} {T : TypeId} (h : w.heap[b]? = some (.cells cs T (0, 0))) (i : Nat) (u : Value) (hu : cs[i]? = some u) : w.cell? ⟨b, i, none⟩ = some u := (cell_of_row w b i _ _ _ h).trans hu
theorem rowIs_only {S : Nat → Prop} {w w' : World} {g n : Nat} {te : TypeId} {F : Nat → Value} (h : w.rowIs g te n F) (ho : Only S w w') (hS : ¬ S g) : w'.rowIs g te n F := h.of_block (ho.block g h.lt hS)
theorem rowIs_of_heap {w : World} {g n : Nat} {te : TypeId} {cs : Array Value} (h : w.heap[g]? = some (.cells cs te (0, 0))) (hn : cs.size = n) : w.rowIs g te n (fun i => cs.getD i undef) :=
  ⟨cs, h, hn, fun i hi => by
    have : i < cs.size := by omega
    simp [this]⟩

section
variable {w w' : World} {b : Nat} {T te : TypeId} {sz : Nat} {rest : List Value} {v : Value} {L f : Nat} {l : List (List Value)} {g : Option Nat}
theorem RingL.cell0 (h : RingL w b T te sz rest v L f l) : w.cell? ⟨b, 0, none⟩ = some v := cell_of_blk h.blk 0 _ rfl
theorem RingL.cell1 (h : RingL w b T te sz rest v L f l) : w.cell? ⟨b, 1, none⟩ = some (.int .i64 (f : Int)) := cell_of_blk h.blk 1 _ rfl
theorem RingL.cell2 (h : RingL w b T te sz rest v L f l) : w.cell? ⟨b, 2, none⟩ = some (.int .i64 (l.length : Int)) := cell_of_blk h.blk 2 _ rfl
theorem RingL.thawed (h : RingL w b T te sz rest v L f l) (i : Nat) : w.frozen? ⟨b, i, none⟩ = false := frozen_of_row w b i _ _ h.blk
theorem RingL.lt (h : RingL w b T te sz rest v L f l) : b < w.heap.size := heap_lt h.blk
theorem RingRow.lt (h : RingRow w b te sz v L f l) : ∀ k, v.ownBlock = some k → k < w.heap.size ∧ k ≠ b := by
  intro k hk
  rcases h with ⟨rfl, _, _⟩ | ⟨g, F, hne, rfl, _, hr, _⟩
  · cases hk
  · injection hk with hk
    subst hk
    exact ⟨hr.lt, hne⟩
theorem RingRow.only {S : Nat → Prop} (h : RingRow w b te sz v L f l) (ho : Only S w w') (hg : ∀ k, v.ownBlock = some k → ¬ S k) : RingRow w' b te sz v L f l := by
  rcases h with h | ⟨g, F, hne, rfl, hf, hr, hx⟩
  · exact .inl h
  · exact .inr ⟨g, F, hne, rfl, hf, rowIs_only hr ho (hg g rfl), hx⟩
theorem RingL.only {S : Nat → Prop} (h : RingL w b T te sz rest v L f l) (ho : Only S w w') (hb : ¬ S b) (hg : ∀ k, v.ownBlock = some k → ¬ S k) : RingL w' b T te sz rest v L f l :=
  ⟨ho.block' h.blk hb, h.le, h.bd, h.row.only ho hg⟩
theorem RingL.slice_ (h : RingL w b T te sz rest v L f l) : ∃ A, v = .slice A L L := by
  rcases h.row with ⟨rfl, rfl, _⟩ | ⟨g, F, _, rfl, _⟩
  · exact ⟨none, rfl⟩
  · exact ⟨_, rfl⟩
theorem Ring.only {S : Nat → Prop} (h : Ring w b T te sz rest g l) (ho : Only S w w') (hb : ¬ S b) (hg : ∀ k, g = some k → ¬ S k) : Ring w' b T te sz rest g l := by
  obtain ⟨v, L, f, hv, hr⟩ := h
  exact ⟨v, L, f, hv, hr.only ho hb (by rw [hv]; exact hg)⟩
theorem Ring.below (h : Ring w b T te sz rest g l) (hb : Below w.heap.size w w') : Ring w' b T te sz rest g l := h.only (Only.of_below (fun _ => False) hb) id (fun _ _ h => h)
theorem Ring.drewN (h : Ring w b T te sz rest g l) (n : Nat) : Ring (w.drewN n) b T te sz rest g l := h.only ((Only.refl (fun _ => False) w).drewN n) id (fun _ _ h => h)
theorem Ring.lt (h : Ring w b T te sz rest g l) : b < w.heap.size ∧ ∀ k, g = some k → k < w.heap.size ∧ k ≠ b := by
  obtain ⟨v, L, f, hv, hr⟩ := h
  exact ⟨hr.lt, fun k hk => hr.row.lt k (by rw [hv]; exact hk)⟩
/-- The cells behind the ring's. -/
theorem Ring.behind (h : Ring w b T te sz rest g l) (i : Nat) (u : Value) (hu : rest[i]? = some u) : w.cell? ⟨b, 3 + i, none⟩ = some u ∧ w.frozen? ⟨b, 3 + i, none⟩ = false := by
  obtain ⟨v, L, f, hv, hr⟩ := h
  refine ⟨cell_of_blk hr.blk _ _ ?_, hr.thawed _⟩
  rw [RingCells, List.getElem?_toArray, show 3 + i = i + 1 + 1 + 1 from by omega, List.getElem?_cons_succ, List.getElem?_cons_succ, List.getElem?_cons_succ]
  exact hu
/-- A store behind the ring's cells. -/
theorem Ring.setRest (h : Ring w b T te sz rest g l) (i : Nat) (u : Value) : Ring (w.setCell ⟨b, 3 + i, none⟩ u) b T te sz (rest.set i u) g l := by
  obtain ⟨v, L, f, hv, hr⟩ := h
  refine ⟨v, L, f, hv, ⟨?_, hr.le, hr.bd, ?_⟩⟩
  · rw [heap_setCell_same w b _ _ _ _ hr.blk]
    congr 2
    rw [RingCells, RingCells, List.setIfInBounds_toArray, show 3 + i = i + 1 + 1 + 1 from by omega, List.set_cons_succ, List.set_cons_succ, List.set_cons_succ]
  · refine hr.row.only (S := fun k => k = b) (Only.setCell (S := fun k => k = b) (p := ⟨b, 3 + i, none⟩) (Only.refl _ w) (.inr rfl) u) fun k hk => (hr.row.lt k hk).2
/-- What an op of the ring may change. -/
def RS (b : Nat) (g : Option Nat) (k : Nat) : Prop := k = b ∨ g = some k
end

/-! ### places in a circle -/
theorem circ_back (L f i : Nat) (h : i + 1 < L) (hf : f < L) : ((f + L - 1) % L + (i + 1)) % L = (f + i) % L ∧ (f + i) % L ≠ (f + L - 1) % L := by
  rcases Nat.eq_zero_or_pos f with h0 | h0
  · subst h0
    rw [Nat.zero_add, Nat.mod_eq_of_lt (show L - 1 < L by omega), Nat.zero_add, Nat.mod_eq_of_lt (show i < L by omega), show L - 1 + (i + 1) = i + L from by omega, Nat.add_mod_right, Nat.mod_eq_of_lt (show i < L by omega)]
    exact ⟨rfl, by omega⟩
  · have h1 : (f + L - 1) % L = f - 1 := by rw [show f + L - 1 = f - 1 + L from by omega, Nat.add_mod_right, Nat.mod_eq_of_lt (by omega)]
    rw [h1, show f - 1 + (i + 1) = f + i from by omega]
    refine ⟨rfl, fun e => ?_⟩
    rcases Nat.lt_or_ge (f + i) L with h2 | h2
    · rw [Nat.mod_eq_of_lt h2] at e; omega
    · rw [Nat.mod_eq_sub_mod h2, Nat.mod_eq_of_lt (by omega)] at e; omega
theorem circ_here (L f : Nat) : ((f + L - 1) % L + 0) % L = (f + L - 1) % L := by rw [Nat.add_zero, Nat.mod_mod]
theorem circ_ne (L f i j : Nat) (hi : i < L) (hj : j < L) (h : i ≠ j) : (f + i) % L ≠ (f + j) % L := by
  intro e
  have h1 := Nat.div_add_mod (f + i) L
  have h2 := Nat.div_add_mod (f + j) L
  rw [e] at h1
  rcases Nat.lt_trichotomy ((f + i) / L) ((f + j) / L) with h3 | h3 | h3
  · have : L * ((f + i) / L + 1) ≤ L * ((f + j) / L) := Nat.mul_le_mul_left L h3
    rw [Nat.mul_add, Nat.mul_one] at this
    omega
  · rw [h3] at h1; omega
  · have : L * ((f + j) / L + 1) ≤ L * ((f + i) / L) := Nat.mul_le_mul_left L h3
    rw [Nat.mul_add, Nat.mul_one] at this
    omega
theorem place_lt {p L sz j : Nat} (hp : p < L) (hj : j < sz) : p * sz + j < L * sz := by
  have : (p + 1) * sz ≤ L * sz := Nat.mul_le_mul_right sz hp
  rw [Nat.add_mul, Nat.one_mul] at this
  omega
theorem place_ne {p q sz i j : Nat} (hi : i < sz) (hj : j < sz) (h : p ≠ q) : p * sz + i ≠ q * sz + j := by
  intro e
  rcases Nat.lt_or_ge p q with h1 | h1
  · have : (p + 1) * sz ≤ q * sz := Nat.mul_le_mul_right sz h1
    rw [Nat.add_mul, Nat.one_mul] at this
    omega
  · have : (q + 1) * sz ≤ p * sz := Nat.mul_le_mul_right sz (show q + 1 ≤ p by omega)
    rw [Nat.add_mul, Nat.one_mul] at this
    omega
theorem run_make_rowN {P : Program} (t e : TypeId) (z : Value) (size bytes : Nat) (ht : P.underlying t = some (.slice e)) (hinfo : (P.info? e).map (fun i => (i.zero, i.size, i.bytes)) = some (some z, size, bytes))
    (n : Nat) (hbytes : bytes * n ≤ 281474976710656) (h63 : n ≤ 9223372036854775807) (w : World) :
    (Instr.makeSlice t (.int .i64 (n : Int)) (.int .i64 (n : Int))).run P w = .ok (.slice (some ⟨w.heap.size, 0, none⟩) n n) (w.alloc (.cells (madeCells z.cells (n * size)) e)) := by
  obtain ⟨i, hi, hz, hs, hb⟩ := info_open hinfo
  subst hs; subst hb
  have hb' : (i.bytes : Int) * (n : Int) ≤ 281474976710656 := by
    have h : ((i.bytes * n : Nat) : Int) ≤ 281474976710656 := by omega
    rwa [Int.natCast_mul] at h
  have hr := run_make (P := P) w t e i z ht hi hz .i64 .i64 n n (by omega) (Int.le_refl _) hb' (by omega)
  simp only [Int.toNat_natCast] at hr
  exact hr
end Go.Proofs.Ytmjibpjnhehnnaa
