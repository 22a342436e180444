/- The reference's table of codes: three rows of the call's own in one block; its list of lengths. -/
import Derived.Test.YtaogmekmampegaaRa
import Derived.Test.YtaogmekmampegaaOn
import Derived.Test.YtaogmekmampegaaHl
import Derived.Deep.LoopGhost
import Derived.Deep.QuietTactic
import Derived.BigQuiet
import Derived.Deep.DeepCutAuto
namespace Go.Proofs.Ytaogmekmampegaa
open Go.RowKit
attribute [local go_sem ↓] Go.wp_at_zero Go.wp_at_succ

def i64s (l : List Nat) : List Value := l.map fun (n : Nat) => Value.int .i64 (n : Int)
theorem i64s_length (l : List Nat) : (i64s l).length = l.length := by simp [i64s]
theorem i64s_append (l m : List Nat) : i64s (l ++ m) = i64s l ++ i64s m := by simp [i64s]
theorem i64s_at (l : List Nat) (i : Nat) (h : i < l.length) : (i64s l)[i]? = some (.int .i64 (l.getD i 0 : Nat)) := by
  simp [i64s, h]
theorem info_int : (Try.prog.info? 3).map (fun i => (i.zero, i.size, i.bytes)) = some (some (.int .i64 0), 1, 8) := by kernel_rfl

def up {α : Type} (f : Nat → α) (k : Nat) (x : α) : Nat → α := fun i => if i = k then x else f i
theorem up_same {α : Type} (f : Nat → α) (k : Nat) (x : α) : up f k x k = x := if_pos rfl
theorem up_ne {α : Type} (f : Nat → α) {k i : Nat} (x : α) (h : i ≠ k) : up f k x i = f i := if_neg h

/-- Three rows, their values in block b. -/
structure Cb (w : World) (b : Nat) (hv : Nat → Value) (rows : Nat → List Nat) : Prop where
  blk : w.heap[b]? = some (.cells #[hv 0, hv 1, hv 2] 59 (0, 0))
  own : ∀ i, i < 3 → w.ownsRow (b + 1) 3 1 (hv i) (rows i).length (i64s (rows i))
  apart : ∀ i j, i < 3 → j < 3 → i ≠ j → (hv i).ownBlock = none ∨ (hv i).ownBlock ≠ (hv j).ownBlock

section
variable {w w' w1 : World} {b : Nat} {hv : Nat → Value} {rows : Nat → List Nat}
theorem Cb.lt (h : Cb w b hv rows) : b < w.heap.size := heap_lt h.blk
theorem Cb.cell (h : Cb w b hv rows) (i : Nat) (hi : i < 3) : w.cell? ⟨b, i, none⟩ = some (hv i) := by
  rw [cell_of_row w b _ _ _ _ h.blk]
  match i, hi with
  | 0, _ => rfl
  | 1, _ => rfl
  | 2, _ => rfl
theorem Cb.thawed (h : Cb w b hv rows) (i : Nat) : w.frozen? ⟨b, i, none⟩ = false := frozen_of_row w b _ _ _ h.blk
theorem cown_notB {e size n : Nat} {v : Value} {xs : List Value} (h : w.ownsRow (b + 1) e size v n xs) : v.ownBlock = none ∨ v.ownBlock ≠ some b := by
  cases hv : v.ownBlock with
  | none => exact .inl rfl
  | some k => exact .inr fun e => by injection e with e; have := (h.lt k hv).1; omega
theorem Cb.only {S : Nat → Prop} (h : Cb w b hv rows) (ho : Only S w w') (hS : ∀ k, S k → k < b) : Cb w' b hv rows := by
  refine ⟨ho.block' h.blk (fun hk => by have := hS b hk; omega), fun n hn => ?_, h.apart⟩
  have h1 := h.own n hn
  refine ⟨h1.1, ?_⟩
  rcases h1.2 with hn' | ⟨g, cap, cur, hvn, hg, hgg, r⟩
  · exact .inl hn'
  · exact .inr ⟨g, cap, cur, hvn, hg, ho.block' hgg (fun hk => by have := hS g hk; omega), r⟩
theorem Cb.below (h : Cb w b hv rows) (hb : Below w.heap.size w w') : Cb w' b hv rows := h.only (Only.of_below (fun _ => False) hb) (fun _ hk => hk.elim)
theorem csetCell_grown (w : World) (b i : Nat) (u : Value) : w.grownBy (w.setCell ⟨b, i, none⟩ u) (some b) :=
  ⟨rfl, rfl, rfl, by simp [World.setCell], fun k _ hk => Below.heap_setCell _ _ _ _ (fun e => hk (by rw [e]))⟩
/-- An append to one row, and its value stored. -/
theorem Cb.push {ob : Obj} (h : Cb w b hv rows) (n0 s : Nat) (hn0 : n0 < 3) {v1 : Value} (hown : w1.ownsRow (b + 1) 3 1 v1 ((rows n0).length + 1) (i64s (rows n0) ++ [.int .i64 (s : Int)]))
    (hg : (w.alloc ob).grownBy w1 (hv n0).ownBlock) (hat : v1.ownBlock = (hv n0).ownBlock ∨ v1.ownBlock = some (w.heap.size + 1)) :
    Cb (w1.setCell ⟨b, n0, none⟩ v1) b (up hv n0 v1) (up rows n0 (rows n0 ++ [s])) := by
  have hlt := h.lt
  have hb1 : w1.heap[b]? = some (.cells #[hv 0, hv 1, hv 2] 59 (0, 0)) := by
    rw [hg.block b (by simp; omega) (fun e => by
      rcases cown_notB (h.own n0 hn0) with h1 | h1
      · rw [h1] at e; cases e
      · exact h1 e.symm), Below.heap_alloc _ _ _ hlt]
    exact h.blk
  refine ⟨?_, fun n hn => ?_, fun m n hm hn hne => ?_⟩
  · rw [heap_setCell_same w1 b _ _ _ _ hb1]
    match n0, hn0 with
    | 0, _ => rfl
    | 1, _ => rfl
    | 2, _ => rfl
  · by_cases e : n = n0
    · subst e
      rw [up_same, up_same]
      have h2 : w1.ownsRow (b + 1) 3 1 v1 (rows n ++ [s]).length (i64s (rows n ++ [s])) := by
        rw [i64s_append, List.length_append]; exact hown
      exact h2.kept (csetCell_grown w1 b _ _) (cown_notB h2)
    · rw [up_ne _ _ e, up_ne _ _ e]
      have h2 : w1.ownsRow (b + 1) 3 1 (hv n) (rows n).length (i64s (rows n)) := ((h.own n hn).alloc ob).kept hg (h.apart n n0 hn hn0 e)
      exact h2.kept (csetCell_grown w1 b _ _) (cown_notB h2)
  · by_cases em : m = n0
    · subst em
      have hnn : n ≠ m := fun e => hne e.symm
      rw [up_same, up_ne _ _ hnn]
      rcases hat with hat | hat
      · rw [hat]; exact h.apart m n hm hn hne
      · rw [hat]
        refine .inr fun e => ?_
        have := ((h.own n hn).lt _ e.symm).2
        omega
    · rw [up_ne _ _ em]
      by_cases en : n = n0
      · subst en
        rw [up_same]
        rcases hat with hat | hat
        · rw [hat]; exact h.apart m n hm hn hne
        · rw [hat]
          cases hm' : (hv m).ownBlock with
          | none => exact .inl rfl
          | some k =>
            refine .inr fun e => ?_
            injection e with e
            have := ((h.own m hm).lt _ hm').2
            omega
      · rw [up_ne _ _ en]; exact h.apart m n hm hn hne
/-- Behind an append to one row the block itself is as it was. -/
theorem Cb.pushed {ob : Obj} (h : Cb w b hv rows) (n0 : Nat) (hn0 : n0 < 3) (hg : (w.alloc ob).grownBy w1 (hv n0).ownBlock) : w1.heap[b]? = w.heap[b]? := by
  have hlt := h.lt
  rw [hg.block b (by simp; omega) (fun e => by
      rcases cown_notB (h.own n0 hn0) with h1 | h1
      · rw [h1] at e; cases e
      · exact h1 e.symm), Below.heap_alloc _ _ _ hlt]
end

/-- The lengths as values. -/
def refLens : Array Value := (i64s Hf.lens).toArray
set_option maxRecDepth 100000 in
theorem refLengths_any (w : World) : Calls Try.prog 30 #[] w fun e w' => ∃ A c, e = .returned (.slice A 257 c) ∧ w'.ownsRow w.heap.size 3 1 (.slice A 257 c) 257 (i64s Hf.lens) ∧ Below w.heap.size w w' := by
  go_enter Try.func30, Try.ntmps30
  refine wp_seq_k fun K1 hK1 => ?_
  refine wp_region_lit ?_
  refine wpList_closed rfl (v := .slice none 0 0) (w' := w) (by kernel_rfl) ?_
  refine wpList_nil ?_
  refine hK1 _ _ ?_
  clear hK1 K1
  refine wp_seq_k fun K2 hK2 => ?_
  refine wp_region_lit ?_
  refine wpList_closed rfl (v := .slice (some ⟨w.heap.size, 0, none⟩) 257 257) (w' := w.alloc (.cells refLens 3)) (by kernel_rfl) ?_
  refine wpList_closed rfl (v := .slice (some ⟨w.heap.size, 0, none⟩) 257 257) (w' := w.alloc (.cells refLens 3)) (by rfl) ?_
  refine wpList_nil ?_
  refine hK2 _ _ ?_
  clear hK2 K2
  have hown : (w.alloc (.cells refLens 3)).ownsRow w.heap.size 3 1 (.slice (some ⟨w.heap.size, 0, none⟩) 257 257) 257 (i64s Hf.lens) := World.ownsRow_lit (base := w.heap.size) (e := 3) (size := 1) w refLens 257 (Nat.le_refl _) (by unfold maxLen; omega) (by rw [refLens, List.size_toArray, i64s_length, Hf.lens_length])
  have hB : Below w.heap.size w (w.alloc (.cells refLens 3)) := (Below.refl _ _).alloc (Nat.le_refl _) _
  generalize w.alloc (.cells refLens 3) = w1 at *
  refine wp_ret ?_
  go_ret
  exact ⟨_, _, rfl, hown, hB⟩

section
variable {ops : Array Oper} {rest : List Oper} {o : Oper} {a : Act} {Q : Exit → Act → World → Prop}
/-- append(c.F, y): the element's box has just been laid; what follows stores the row's value. -/
theorem wpList_cpush {W : World} {b : Nat} {hv : Nat → Value} {rows : Nat → List Nat} (hT : Cb W b hv rows) (i : Nat) (hi : i < 3) (s x : Operand) (hgd : o.guard = none)
    (ho : o.op = .call { callee := .builtin .append, args := #[s, x], argTypes := #[57, 57] })
    (A : Option Addr) (n c y : Nat) (hA : hv i = .slice A n c) (hn : (rows i).length = n) (hs : a.eval s = .slice A n c) (hx : a.eval x = .slice (some ⟨W.heap.size, 0, none⟩) 1 1) (hm : n ≤ 1000)
    (h : ∀ A1 c1 w1, Cb (w1.setCell ⟨b, i, none⟩ (.slice A1 (n + 1) c1)) b (up hv i (.slice A1 (n + 1) c1)) (up rows i (rows i ++ [y])) → w1.cell? ⟨b, i, none⟩ = some (.slice A n c) → w1.frozen? ⟨b, i, none⟩ = false →
      (∀ B w0, Below B w0 W → B ≤ b → B ≤ W.heap.size → Below B w0 (w1.setCell ⟨b, i, none⟩ (.slice A1 (n + 1) c1))) → wpList Try.prog ops Q rest (a.put o.dst (.slice A1 (n + 1) c1)) w1) :
    wpList Try.prog ops Q (o :: rest) a (W.alloc (.cells #[.int .i64 (y : Int)] 3)) := by
  have hown := hT.own i hi
  have hlt := hT.lt
  rw [hn] at hown
  have hown' := hown
  rw [hA] at hown'
  refine wpList_push (b + 1) hgd s x 57 3 (.int .i64 0) 8 ho Try.underlying57 info_int rfl (.slice A n c) n (i64s (rows i)) (.int .i64 (y : Int)) hs hx rfl hown' (by omega) (by unfold maxLen; omega) (by omega) fun v1 w1 hown1 hg1 hat1 => ?_
  obtain ⟨A1, c1, rfl⟩ := own_slice hown1
  rw [← hA] at hg1 hat1
  have hp := hT.pushed i hi hg1
  have hT1 := hT.push i y hi (by rw [hn]; exact hown1) hg1 hat1
  refine h A1 c1 w1 hT1 ((World.cell?_of_block (a := ⟨b, i, none⟩) hp).trans ((hT.cell i hi).trans (congrArg some hA))) ((World.frozen?_of_block (a := ⟨b, i, none⟩) hp).trans (hT.thawed i)) fun B w0 hB hb hBw => ?_
  exact ((hB.alloc hBw _).grown hg1 (by simp; omega) (fun g hg => by have := (hown.lt g hg).1; omega)).setCell (by show B ≤ b; exact hb) _
end
end Go.Proofs.Ytaogmekmampegaa
