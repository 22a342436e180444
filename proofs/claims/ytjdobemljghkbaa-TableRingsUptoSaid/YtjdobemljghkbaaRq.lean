/- A slice of the call's own that may begin inside its block (as in the queue's XQr). -/
import Derived.Test.YtjdobemljghkbaaTx
import Derived.ArgAppend
import Derived.Laws.IdiomStrings
import Derived.Laws.BytesArg
namespace Go.Proofs.Ytjdobemljghkbaa
open Go.RowKit

/-- A slice of the call's own that may begin inside its block. -/
def QRow (w : World) (base e : Nat) (v : Value) (xs : List Value) : Prop :=
  (v = .slice none 0 0 ∧ xs = []) ∨ ∃ g off cap cur, v = .slice (some ⟨g, off, none⟩) xs.length cap ∧ base ≤ g ∧ w.heap[g]? = some (.cells cur e (0, 0)) ∧ xs.length ≤ cap ∧ cap ≤ maxLen ∧ off + cap ≤ cur.size ∧ ∀ i, i < xs.length → cur[off + i]? = xs[i]?
theorem QRow.of_own {w : World} {base e n : Nat} {v : Value} {xs : List Value} (h : w.ownsRow base e 1 v n xs) : QRow w base e v xs := by
  obtain ⟨hl, h⟩ := h
  rcases h with ⟨rfl, rfl⟩ | ⟨g, cap, cur, rfl, hb, hh, hn, hm, hs, ht⟩
  · exact .inl ⟨rfl, List.eq_nil_of_length_eq_zero (by simpa using hl)⟩
  · have hl' : xs.length = n := by simpa using hl
    refine .inr ⟨g, 0, cap, cur, by rw [hl'], hb, hh, by omega, hm, by omega, fun i hi => ?_⟩
    rw [← ht, List.getElem?_take, if_pos (by omega), Nat.zero_add, Array.getElem?_toList]
theorem QRow.slice_ {w : World} {base e : Nat} {v : Value} {xs : List Value} (h : QRow w base e v xs) : ∃ A c, v = .slice A xs.length c := by
  rcases h with ⟨rfl, rfl⟩ | ⟨g, off, cap, cur, rfl, _⟩
  · exact ⟨none, 0, rfl⟩
  · exact ⟨_, _, rfl⟩
theorem QRow.cells {w : World} {base e : Nat} {A : Option Addr} {n c : Nat} {xs : List Value} (h : QRow w base e (.slice A n c) xs) (i : Nat) (hi : i < xs.length) : ∃ x u, A = some x ∧ xs[i]? = some u ∧ w.cell? (x.add i) = some u := by
  rcases h with ⟨_, rfl⟩ | ⟨g, off, cap, cur, hv, _, hh, _, _, _, hc⟩
  · simp at hi
  · injection hv with hA
    subst hA
    refine ⟨_, _, rfl, List.getElem?_eq_getElem hi, ?_⟩
    rw [Addr.add_mid, cell_of_row w g _ cur e (0, 0) hh, hc i hi]
    exact List.getElem?_eq_getElem hi
theorem QRow.lt {w : World} {base e : Nat} {v : Value} {xs : List Value} (h : QRow w base e v xs) : ∀ k, v.ownBlock = some k → base ≤ k ∧ k < w.heap.size := by
  intro k hk
  rcases h with ⟨rfl, _⟩ | ⟨g, off, cap, cur, rfl, hb, hh, _⟩
  · simp [Value.ownBlock] at hk
  · simp [Value.ownBlock] at hk
    subst hk
    exact ⟨hb, heap_lt hh⟩
theorem QRow.keep {w w' : World} {base e : Nat} {v : Value} {xs : List Value} (h : QRow w base e v xs) (hk : ∀ k, k < w.heap.size → base ≤ k → w'.heap[k]? = w.heap[k]?) : QRow w' base e v xs := by
  rcases h with h | ⟨g, off, cap, cur, rfl, hb, hh, r⟩
  · exact .inl h
  · exact .inr ⟨g, off, cap, cur, rfl, hb, (hk g (heap_lt hh) hb).trans hh, r⟩
/-- The first one is cut away. -/
theorem QRow.tail {w : World} {base e : Nat} {x : Addr} {n c : Nat} {u : Value} {xs : List Value} (h : QRow w base e (.slice (some x) n c) (u :: xs)) : QRow w base e (.slice (if c = 1 then some x else some (x.add 1)) (n - 1) (c - 1)) xs := by
  rcases h with ⟨h, _⟩ | ⟨g, off, cap, cur, hv, hb, hh, hn, hm, hs, hc⟩
  · cases h
  · injection hv with hA hn' hc'
    injection hA with hA
    subst hA; subst hn'; subst hc'
    simp only [List.length_cons] at hn ⊢
    by_cases h1 : c = 1
    · subst h1
      obtain rfl : xs = [] := List.eq_nil_of_length_eq_zero (by omega)
      exact .inr ⟨g, off, 0, cur, by simp, hb, hh, by simp, by omega, by omega, by simp⟩
    · rw [if_neg h1, Addr.add_mid]
      refine .inr ⟨g, off + 1, c - 1, cur, by simp, hb, hh, by omega, by omega, by omega, fun i hi => ?_⟩
      have := hc (i + 1) (by simp; omega)
      rw [show off + (i + 1) = off + 1 + i from by omega] at this
      simpa using this

section
variable {P : Program} {ops : Array Oper} {rest : List Oper} {o : Oper} {a : Act} {Q : Exit → Act → World → Prop}
/-- append(v, y) onto such a slice. -/
theorem wpList_qpush {W : World} (base : Nat) (hgd : o.guard = none) (s x : Operand) (t e : TypeId) (z : Value) (bytes : Nat)
    (ho : o.op = .call { callee := .builtin .append, args := #[s, x], argTypes := #[t, t] })
    (ht : P.underlying t = some (.slice e)) (hinfo : (P.info? e).map (fun i => (i.zero, i.size, i.bytes)) = some (some z, 1, bytes)) (hz : z.cells.size = 1)
    (v : Value) (xs : List Value) (y : Value) (hs : a.eval s = v) (hx : a.eval x = .slice (some ⟨W.heap.size, 0, none⟩) 1 1) (h1 : y.oneCell' = true)
    (HO : QRow W base e v xs) (hbase : base ≤ W.heap.size) (hm : xs.length + 1 ≤ maxLen) (hl : (xs.length + 1) * bytes ≤ 140737488355328)
    (h : ∀ v1 w1, QRow w1 base e v1 (xs ++ [y]) → (W.alloc (.cells #[y] e)).grownBy w1 v.ownBlock → (∀ k, v1.ownBlock = some k → v.ownBlock = some k ∨ W.heap.size ≤ k) → wpList P ops Q rest (a.put o.dst v1) w1) :
    wpList P ops Q (o :: rest) a (W.alloc (.cells #[y] e)) := by
  obtain ⟨i0, hi, hz0, hz1, hz2⟩ := info_open hinfo
  rcases HO with ⟨rfl, rfl⟩ | ⟨g, off, cap, cur, rfl, hb, hh, hn, hcm, hcs, hc⟩
  · refine wpList_push base hgd s x t e z bytes ho ht hinfo hz (.slice none 0 0) 0 [] y hs hx h1 (World.ownsRow_nil _ _ _ _) hbase (by simpa using hm) (by simpa using hl) fun v1 w1 hown hg hat => ?_
    refine h v1 w1 (QRow.of_own hown) hg fun k hk => ?_
    rcases hat with e | e
    · exact .inl (by rw [← e]; exact hk)
    · rw [e] at hk; injection hk with hk; exact .inr (by omega)
  · have hlt := heap_lt hh
    have hh' : (W.alloc (.cells #[y] e)).heap[g]? = some (.cells cur e (0, 0)) := (Below.heap_alloc _ _ _ hlt).trans hh
    refine wpList_append_arg (W.alloc (.cells #[y] e)) hgd s x t ho e i0 z 1 bytes ht hi hz0 hz1 hz2 hz (by omega) g off xs.length cap xs hs (by simp) (fun j u hu => ?_) ⟨W.heap.size, 0, none⟩ 1 1 [y] hx rfl
      (World.news_of_block (cs := #[y]) (t := e) (fr := (0, 0)) (heap_alloc_new W _)) (by simpa using h1) (fun hr j hj => ?_) hm hl (fun hr => ?_) (fun hr v1 w1 hown hg => ?_)
    · have hj : j < xs.length := (List.getElem?_eq_some_iff.1 hu).1
      rw [cell_of_row _ g _ cur e (0, 0) hh', hc j hj, hu]
    · have hj0 : j = 0 := by simpa using hj
      subst hj0
      have hin : off + xs.length < cur.size := by omega
      refine ⟨?_, by simp [World.frozen?, hh']⟩
      rw [cell_of_row _ g _ cur e (0, 0) hh']
      simp [hin]
    · simp only [World.setCells, Nat.mul_one]
      have hset : ((W.alloc (.cells #[y] e)).setCell ⟨g, off + xs.length, none⟩ y).heap[g]? = some (.cells (cur.setIfInBounds (off + xs.length) y) e (0, 0)) := by
        simp only [World.setCell, Array.getElem?_modify, if_true, hh', Option.map_some]
        rfl
      refine h _ _ (.inr ⟨g, off, cap, cur.setIfInBounds (off + xs.length) y, by simp, hb, hset, by simp; omega, hcm, by simp; omega, fun i hi => ?_⟩) ⟨rfl, rfl, rfl, by simp [World.setCell], fun k _ hk => Below.heap_setCell _ _ _ _ (fun e => hk (by simp [Value.ownBlock, e]))⟩ fun k hk => .inl (by simpa [Value.ownBlock] using hk)
      simp only [List.length_append, List.length_cons, List.length_nil] at hi
      by_cases he : i = xs.length
      · subst he
        have hin : off + xs.length < cur.size := by omega
        simp [hin]
      · rw [List.getElem?_append_left (by omega), ← hc i (by omega), Array.getElem?_setIfInBounds_ne (by omega)]
    · exact h v1 w1 (QRow.of_own (by
        obtain ⟨h0, h2⟩ := hown
        refine ⟨h0, ?_⟩
        rcases h2 with h2 | ⟨g', cp', cur', hv', hb', r⟩
        · exact .inl h2
        · exact .inr ⟨g', cp', cur', hv', Nat.le_trans hbase (by simp at hb'; omega), r⟩)) ⟨hg.os, hg.tape, hg.output, hg.size, fun k hk _ => hg.block k hk (by simp)⟩ fun k hk => .inr (by
        rcases hown.2 with ⟨hv', _⟩ | ⟨g', cp', cur', hv', hb', r⟩
        · rw [hv'] at hk; simp [Value.ownBlock] at hk
        · rw [hv'] at hk; simp [Value.ownBlock] at hk; simp at hb'; omega)
end


/-- A text of zero bytes. -/
def zs (n : Nat) : ByteArray := ⟨(List.replicate n (0 : UInt8)).toArray⟩
theorem zs_size (n : Nat) : (zs n).size = n := by show (List.replicate n (0 : UInt8)).toArray.size = n; simp
theorem info_u8z : (Try.prog.info? 5).map (fun i => (i.zero, i.size, i.bytes)) = some (some (.int .u8 0), 1, 1) := by kernel_rfl
theorem run_make_z (n : Nat) (hn : n ≤ 64) (w : World) : (Instr.makeSlice 46 (.int .i64 (n : Int)) (.int .i64 (n : Int))).run Try.prog w = .ok (.slice (some ⟨w.heap.size, 0, none⟩) n n) (w.alloc (.cells (madeCells #[.int .u8 0] n) 5)) :=
  run_make_row' (P := Try.prog) 46 5 (.int .u8 0) 1 Try.underlying46 info_u8z rfl .i64 .i64 n (by omega) (by omega) w
theorem run_text_z (n : Nat) (w : World) : (convert 46 9 (.slice (some ⟨w.heap.size, 0, none⟩) n n)).run Try.prog (w.alloc (.cells (madeCells #[.int .u8 0] n) 5)) = .ok (.string (zs n)) (w.alloc (.cells (madeCells #[.int .u8 0] n) 5)) := by
  have := run_convert_bytes_back (P := Try.prog) (w.alloc (.cells (madeCells #[.int .u8 0] n) 5)) 46 9 5 ⟨w.heap.size, 0, none⟩ n (List.replicate n 0) Try.underlying46 Try.underlying5 Try.underlying9 (fun j hj => by
    rw [List.length_replicate] at hj
    rw [Addr.add_mid, cell_of_row _ _ _ _ _ _ (heap_alloc_new w _)]
    simp [madeCells, hj, Nat.mod_one])
  rw [List.length_replicate] at this
  exact this
end Go.Proofs.Ytjdobemljghkbaa
