/- The document's queue: a list in a row that may begin inside its block; what New, Put, Take and Drain do to it. -/
import Derived.Test.YtonekffcanlmeaaQt
import Derived.ArgAppend
namespace Go.Proofs.Ytonekffcanlmeaa
open Go.Conc Go.RowKit

/-- A slice of the call's own that may begin inside its block. -/
def QRow (w : World) (base e : Nat) (v : Value) (xs : List Value) : Prop :=
  (v = .slice none 0 0 ∧ xs = []) ∨ ∃ g off cap cur, v = .slice (some ⟨g, off, none⟩) xs.length cap ∧ base ≤ g ∧ w.heap[g]? = some (.cells cur e (0, 0)) ∧ xs.length ≤ cap ∧ cap ≤ maxLen ∧ off + cap ≤ cur.size ∧ ∀ i, i < xs.length → cur[off + i]? = xs[i]?
theorem QRow.of_own {w : World} {base e n : Nat} {v : Value} {xs : List Value} (h : w.ownsRow base e 1 v n xs) : QRow w base e v xs := by
  obtain ⟨hl, h⟩ := h
  rcases h with ⟨rfl, rfl⟩ | ⟨g, cap, cur, rfl, hb, hh, hn, hm, hs, ht⟩
  · exact .inl ⟨rfl, List.eq_nil_of_length_eq_zero (by simpa using hl)⟩
  · have hl' : xs.length = n := by simpa using hl
    refine .inr ⟨g, 0, cap, cur, by rw [hl'], hb, hh, by omega, hm, by omega, fun i hi => ?_⟩
    rw [← ht, List.getElem?_take, if_pos (by omega), Nat.zero_add, Array.getElem?_toList]
theorem QRow.slice_ {w : World} {base e : Nat} {v : Value} {xs : List Value} (h : QRow w base e v xs) : ∃ A c, v = .slice A xs.length c := by
  rcases h with ⟨rfl, rfl⟩ | ⟨g, off, cap, cur, rfl, _⟩
  · exact ⟨none, 0, rfl⟩
  · exact ⟨_, _, rfl⟩
theorem QRow.cells {w : World} {base e : Nat} {A : Option Addr} {n c : Nat} {xs : List Value} (h : QRow w base e (.slice A n c) xs) (i : Nat) (hi : i < xs.length) : ∃ x u, A = some x ∧ xs[i]? = some u ∧ w.cell? (x.add i) = some u := by
  rcases h with ⟨_, rfl⟩ | ⟨g, off, cap, cur, hv, _, hh, _, _, _, hc⟩
  · simp at hi
  · injection hv with hA
    subst hA
    refine ⟨_, _, rfl, List.getElem?_eq_getElem hi, ?_⟩
    rw [Addr.add_mid, cell_of_row w g _ cur e (0, 0) hh, hc i hi]
    exact List.getElem?_eq_getElem hi
theorem QRow.lt {w : World} {base e : Nat} {v : Value} {xs : List Value} (h : QRow w base e v xs) : ∀ k, v.ownBlock = some k → base ≤ k ∧ k < w.heap.size := by
  intro k hk
  rcases h with ⟨rfl, _⟩ | ⟨g, off, cap, cur, rfl, hb, hh, _⟩
  · simp [Value.ownBlock] at hk
  · simp [Value.ownBlock] at hk
    subst hk
    exact ⟨hb, heap_lt hh⟩
theorem QRow.keep {w w' : World} {base e : Nat} {v : Value} {xs : List Value} (h : QRow w base e v xs) (hk : ∀ k, k < w.heap.size → base ≤ k → w'.heap[k]? = w.heap[k]?) : QRow w' base e v xs := by
  rcases h with h | ⟨g, off, cap, cur, rfl, hb, hh, r⟩
  · exact .inl h
  · exact .inr ⟨g, off, cap, cur, rfl, hb, (hk g (heap_lt hh) hb).trans hh, r⟩
theorem QRow.rowAt {α : Type} {w : World} {base e : Nat} {A : Option Addr} {n c : Nat} {enc : α → Value} {l : List α} (h : QRow w base e (.slice A n c) (l.map enc)) : RowAt w A l.length enc l := by
  refine ⟨rfl, fun i hi => ?_⟩
  obtain ⟨x, u, hx, hu, hc⟩ := h.cells i (by simpa using hi)
  refine ⟨x, hx, hc.trans ?_⟩
  rw [List.getElem?_map, List.getElem?_eq_getElem hi] at hu
  exact hu.symm
/-- The first one is cut away. -/
theorem QRow.tail {w : World} {base e : Nat} {x : Addr} {n c : Nat} {u : Value} {xs : List Value} (h : QRow w base e (.slice (some x) n c) (u :: xs)) : QRow w base e (.slice (if c = 1 then some x else some (x.add 1)) (n - 1) (c - 1)) xs := by
  rcases h with ⟨h, _⟩ | ⟨g, off, cap, cur, hv, hb, hh, hn, hm, hs, hc⟩
  · cases h
  · injection hv with hA hn' hc'
    injection hA with hA
    subst hA; subst hn'; subst hc'
    simp only [List.length_cons] at hn ⊢
    by_cases h1 : c = 1
    · subst h1
      obtain rfl : xs = [] := List.eq_nil_of_length_eq_zero (by omega)
      exact .inr ⟨g, off, 0, cur, by simp, hb, hh, by simp, by omega, by omega, by simp⟩
    · rw [if_neg h1, Addr.add_mid]
      refine .inr ⟨g, off + 1, c - 1, cur, by simp, hb, hh, by omega, by omega, by omega, fun i hi => ?_⟩
      have := hc (i + 1) (by simp; omega)
      rw [show off + (i + 1) = off + 1 + i from by omega] at this
      simpa using this

section
variable {P : Program} {ops : Array Oper} {rest : List Oper} {o : Oper} {a : Act} {Q : Exit → Act → World → Prop}
/-- append(v, y) onto such a slice. -/
theorem wpList_qpush {W : World} (base : Nat) (hgd : o.guard = none) (s x : Operand) (t e : TypeId) (z : Value) (bytes : Nat)
    (ho : o.op = .call { callee := .builtin .append, args := #[s, x], argTypes := #[t, t] })
    (ht : P.underlying t = some (.slice e)) (hinfo : (P.info? e).map (fun i => (i.zero, i.size, i.bytes)) = some (some z, 1, bytes)) (hz : z.cells.size = 1)
    (v : Value) (xs : List Value) (y : Value) (hs : a.eval s = v) (hx : a.eval x = .slice (some ⟨W.heap.size, 0, none⟩) 1 1) (h1 : y.oneCell' = true)
    (HO : QRow W base e v xs) (hbase : base ≤ W.heap.size) (hm : xs.length + 1 ≤ maxLen) (hl : (xs.length + 1) * bytes ≤ 140737488355328)
    (h : ∀ v1 w1, QRow w1 base e v1 (xs ++ [y]) → (W.alloc (.cells #[y] e)).grownBy w1 v.ownBlock → wpList P ops Q rest (a.put o.dst v1) w1) :
    wpList P ops Q (o :: rest) a (W.alloc (.cells #[y] e)) := by
  obtain ⟨i0, hi, hz0, hz1, hz2⟩ := info_open hinfo
  rcases HO with ⟨rfl, rfl⟩ | ⟨g, off, cap, cur, rfl, hb, hh, hn, hcm, hcs, hc⟩
  · refine wpList_push base hgd s x t e z bytes ho ht hinfo hz (.slice none 0 0) 0 [] y hs hx h1 (World.ownsRow_nil _ _ _ _) hbase (by simpa using hm) (by simpa using hl) fun v1 w1 hown hg _ => ?_
    exact h v1 w1 (QRow.of_own hown) hg
  · have hlt := heap_lt hh
    have hh' : (W.alloc (.cells #[y] e)).heap[g]? = some (.cells cur e (0, 0)) := (Below.heap_alloc _ _ _ hlt).trans hh
    refine wpList_append_arg (W.alloc (.cells #[y] e)) hgd s x t ho e i0 z 1 bytes ht hi hz0 hz1 hz2 hz (by omega) g off xs.length cap xs hs (by simp) (fun j u hu => ?_) ⟨W.heap.size, 0, none⟩ 1 1 [y] hx rfl
      (World.news_of_block (cs := #[y]) (t := e) (fr := (0, 0)) (heap_alloc_new W _)) (by simpa using h1) (fun hr j hj => ?_) hm hl (fun hr => ?_) (fun hr v1 w1 hown hg => ?_)
    · have hj : j < xs.length := (List.getElem?_eq_some_iff.1 hu).1
      rw [cell_of_row _ g _ cur e (0, 0) hh', hc j hj, hu]
    · have hj0 : j = 0 := by simpa using hj
      subst hj0
      have hin : off + xs.length < cur.size := by omega
      refine ⟨?_, by simp [World.frozen?, hh']⟩
      rw [cell_of_row _ g _ cur e (0, 0) hh']
      simp [hin]
    · simp only [World.setCells, Nat.mul_one]
      have hset : ((W.alloc (.cells #[y] e)).setCell ⟨g, off + xs.length, none⟩ y).heap[g]? = some (.cells (cur.setIfInBounds (off + xs.length) y) e (0, 0)) := by
        simp only [World.setCell, Array.getElem?_modify, if_true, hh', Option.map_some]
        rfl
      refine h _ _ (.inr ⟨g, off, cap, cur.setIfInBounds (off + xs.length) y, by simp, hb, hset, by simp; omega, hcm, by simp; omega, fun i hi => ?_⟩) ⟨rfl, rfl, rfl, by simp [World.setCell], fun k _ hk => Below.heap_setCell _ _ _ _ (fun e => hk (by simp [Value.ownBlock, e]))⟩
      simp only [List.length_append, List.length_cons, List.length_nil] at hi
      by_cases he : i = xs.length
      · subst he
        have hin : off + xs.length < cur.size := by omega
        simp [hin]
      · rw [List.getElem?_append_left (by omega), ← hc i (by omega), Array.getElem?_setIfInBounds_ne (by omega)]
    · exact h v1 w1 (QRow.of_own (by
        obtain ⟨h0, h2⟩ := hown
        refine ⟨h0, ?_⟩
        rcases h2 with h2 | ⟨g', cp', cur', hv', hb', r⟩
        · exact .inl h2
        · exact .inr ⟨g', cp', cur', hv', Nat.le_trans hbase (by simp at hb'; omega), r⟩)) ⟨hg.os, hg.tape, hg.output, hg.size, fun k hk _ => hg.block k hk (by simp)⟩
end

/-- The document's queue whose struct is block bx: its size and what waits. -/
def RQ (w : World) (base bx size : Nat) (l : List Int) : Prop :=
  bx < base ∧ base ≤ w.heap.size ∧ ∃ v, w.heap[bx]? = some (.cells #[.int .i64 (size : Int), v] 41 (0, 0)) ∧ QRow w base 3 v (l.map (Value.int .i64))
theorem RQ.only {w w' : World} {base bx size : Nat} {l : List Int} {S : Nat → Prop} (h : RQ w base bx size l) (ho : Only S w w') (hS : ∀ k, S k → k < bx) : RQ w' base bx size l := by
  obtain ⟨hb, hs, v, hv, hq⟩ := h
  exact ⟨hb, Nat.le_trans hs ho.size, v, (ho.block bx (heap_lt hv) (fun h => by have := hS bx h; omega)).trans hv, hq.keep fun k hk hbk => ho.block k hk (fun h => by have := hS k h; omega)⟩

theorem rq_kept {w w1 : World} {n base bx e : Nat} {cs : Array Value} {t : Nat} {v y : Value} {xs : List Value} (hv : w.heap[bx]? = some (.cells cs t (0, 0))) (hb : bx < base) (hr : QRow w base e v xs) (hg : ((w.drewN n).alloc (.cells #[y] e)).grownBy w1 v.ownBlock) : w1.heap[bx]? = some (.cells cs t (0, 0)) := by
  have hl := heap_lt hv
  rw [hg.block bx (by show bx < ((w.drewN n).alloc _).heap.size; simp; omega) (fun h => by have := hr.lt bx h.symm; omega)]
  exact (Below.heap_alloc _ _ _ hl).trans hv
theorem rq_other {w w1 : World} {n base e : Nat} {v y : Value} {xs : List Value} {p : Nat} (hl : p < w.heap.size) (hp : ∀ cur, w.heap[p]? ≠ some (.cells cur e (0, 0))) (hr : QRow w base e v xs) (hg : ((w.drewN n).alloc (.cells #[y] e)).grownBy w1 v.ownBlock) : w1.heap[p]? = w.heap[p]? := by
  rw [hg.block p (by show p < ((w.drewN n).alloc _).heap.size; simp; omega) ?_]
  · exact Below.heap_alloc _ _ _ hl
  · intro he
    rcases hr with ⟨rfl, _⟩ | ⟨g, off, cap, cur, rfl, _, hh, _⟩
    · simp [Value.ownBlock] at he
    · have : p = g := by simpa [Value.ownBlock] using he
      subst this
      exact hp cur hh
theorem rq_only {w w1 : World} {n base bx e : Nat} {v y : Value} {xs : List Value} (hb : bx < base) (hr : QRow w base e v xs) (hg : ((w.drewN n).alloc (.cells #[y] e)).grownBy w1 v.ownBlock) : Only (fun k => bx ≤ k) w w1 :=
  (((Only.refl _ w).drewN n).alloc _).grown hg fun k hk => .inr (by have := hr.lt k hk; omega)

set_option maxRecDepth 100000 in
theorem rnew_bad (size : Int) (h : size < 1 ∨ 65536 < size) (w : World) :
    Calls Try.prog 8 #[.int .i64 size] w fun e w' => e = .returned (.tuple #[.pointer none, .int .i64 1]) ∧ w = w' := by
  by_cases h1 : size < 1
  · go_enter Try.func8, Try.ntmps8
    go_wp2
    go_ret2
    exact ⟨rfl, rfl⟩
  · have h2 : 65536 < size := by omega
    go_enter Try.func8, Try.ntmps8
    go_wp2
    go_ret2
    exact ⟨rfl, rfl⟩
set_option maxRecDepth 100000 in
theorem rnew_good (n : Nat) (h1 : 1 ≤ n) (h2 : n ≤ 65536) (w : World) :
    Calls Try.prog 8 #[.int .i64 (n : Int)] w fun e w' => e = .returned (.tuple #[.pointer (some ⟨w.heap.size, 0, none⟩), .int .i64 0]) ∧ Below w.heap.size w w' ∧ w'.heap.size = w.heap.size + 1 ∧ RQ w' (w.heap.size + 1) w.heap.size n [] := by
  have h3 : (1 : Int) ≤ (n : Int) := by omega
  have h4 : (n : Int) ≤ 65536 := by omega
  go_enter Try.func8, Try.ntmps8
  go_wp2
  go_ret2
  exact ⟨rfl, (Below.refl _ _).alloc (Nat.le_refl _) _, by simp, by omega, by simp, _, heap_alloc_new w _, .inl ⟨rfl, rfl⟩⟩

set_option maxRecDepth 100000 in
theorem rput_no (base bx size : Nat) (l : List Int) (x : Int) (w : World) (hq : RQ w base bx size l) (h : size ≤ l.length) :
    Calls Try.prog 11 #[.pointer (some ⟨bx, 0, none⟩), .int .i64 x] w fun e w' => e = .returned (.bool false) ∧ ∃ n, w' = w.drewN n := by
  obtain ⟨_, _, v, hv, hr⟩ := hq
  obtain ⟨A, c, rfl⟩ := hr.slice_
  have c0 : w.cell? ⟨bx, 0, none⟩ = some (.int .i64 (size : Int)) := by rw [cell_of_row w bx 0 _ _ _ hv]; rfl
  have c1 : w.cell? ⟨bx, 1, none⟩ = some (.slice A (l.map (Value.int .i64)).length c) := by rw [cell_of_row w bx 1 _ _ _ hv]; rfl
  simp only [List.length_map] at c1
  have hle : (size : Int) ≤ (l.length : Int) := by omega
  clear hv
  go_enter Try.func11, Try.ntmps11
  go_wp2
  go_quiet (fail)
  go_wp2
  go_ret
  exact ⟨rfl, _, rfl⟩
set_option maxRecDepth 100000 in
theorem rput_yes (base bx size : Nat) (l : List Int) (x : Int) (w : World) (hq : RQ w base bx size l) (h : l.length < size) (hsz : size ≤ 65536) (p : Nat) (hpb : p ≠ bx) (hp : ∀ cur, w.heap[p]? ≠ some (.cells cur 3 (0, 0))) (hpl : p < w.heap.size) :
    Calls Try.prog 11 #[.pointer (some ⟨bx, 0, none⟩), .int .i64 x] w fun e w' => e = .returned (.bool true) ∧ RQ w' base bx size (l ++ [x]) ∧ Only (fun k => bx ≤ k) w w' ∧ w'.heap[p]? = w.heap[p]? := by
  obtain ⟨hb, hs, v, hv, hr⟩ := hq
  obtain ⟨A, c, rfl⟩ := hr.slice_
  have c0 : w.cell? ⟨bx, 0, none⟩ = some (.int .i64 (size : Int)) := by rw [cell_of_row w bx 0 _ _ _ hv]; rfl
  have c1 : w.cell? ⟨bx, 1, none⟩ = some (.slice A (l.map (Value.int .i64)).length c) := by rw [cell_of_row w bx 1 _ _ _ hv]; rfl
  simp only [List.length_map] at c1 hr
  have hlt : (l.length : Int) < (size : Int) := by omega
  have HV := Lib.hid hv
  clear hv
  go_enter Try.func11, Try.ntmps11
  go_wp2
  go_quiet (fail)
  go_wp2_with (at_builtin; go_must (refine wpList_qpush base (by rfl) _ _ 37 3 _ 8 (by rfl) Try.underlying37 info_i rfl (.slice A l.length c) (l.map (Value.int .i64)) (.int .i64 x) (by rfl) (by rfl) rfl hr hs (by rw [List.length_map]; unfold maxLen; omega) (by rw [List.length_map]; omega) ?_; intro v1 w1 hr1 hg1; have hv1 : w1.heap[bx]? = _ := rq_kept HV.out hb hr hg1; have f1 : w1.frozen? ⟨bx, 1, none⟩ = false := frozen_of_row w1 bx 1 _ _ hv1; have d1 : w1.cell? ⟨bx, 1, none⟩ = some (.slice A (l.map (Value.int .i64)).length c) := (cell_of_row w1 bx 1 _ _ _ hv1).trans rfl; have ho1 : Only (fun k => bx ≤ k) w w1 := rq_only hb hr hg1; have hp1 : w1.heap[p]? = w.heap[p]? := rq_other hpl hp hr hg1; have HV1 := Lib.hid hv1; clear hv1; obtain ⟨A1, cc1, rfl⟩ := hr1.slice_))
  go_ret
  refine ⟨rfl, ⟨hb, Nat.le_trans hs (by simpa [World.setCell] using ho1.size), .slice A1 (l.length + 1) cc1, ?_, ?_⟩, ho1.setCell (.inr (Nat.le_refl _)) _, (Below.heap_setCell _ _ _ _ (by show p ≠ bx; exact hpb)).trans hp1⟩
  · exact (heap_setCell_same _ _ _ _ _ _ HV1.out).trans rfl
  · rw [List.map_append]
    simp only [List.length_append, List.length_map, List.length_cons, List.length_nil, Nat.zero_add] at hr1
    exact hr1.keep fun k _ hk => Below.heap_setCell _ _ _ _ (by show k ≠ bx; omega)

set_option maxRecDepth 100000 in
theorem rtake_none (base bx size : Nat) (w : World) (hq : RQ w base bx size []) :
    Calls Try.prog 13 #[.pointer (some ⟨bx, 0, none⟩)] w fun e w' => e = .returned (.tuple #[.int .i64 0, .bool false]) ∧ w = w' := by
  obtain ⟨hb, hs, v, hv, hr⟩ := hq
  obtain ⟨A, c, rfl⟩ := hr.slice_
  have c1 : w.cell? ⟨bx, 1, none⟩ = some (.slice A 0 c) := (cell_of_row w bx 1 _ _ _ hv).trans rfl
  clear hv hr
  go_enter Try.func13, Try.ntmps13
  go_wp2
  go_ret2
  exact ⟨rfl, rfl⟩
set_option maxRecDepth 100000 in
theorem rtake_some (base bx size : Nat) (x : Int) (l : List Int) (w : World) (hq : RQ w base bx size (x :: l)) :
    Calls Try.prog 13 #[.pointer (some ⟨bx, 0, none⟩)] w fun e w' => e = .returned (.tuple #[.int .i64 x, .bool true]) ∧ RQ w' base bx size l ∧ Only (fun k => bx ≤ k) w w' := by
  obtain ⟨hb, hs, v, hv, hr⟩ := hq
  obtain ⟨A, c, rfl⟩ := hr.slice_
  obtain ⟨ad, u, rfl, hu, hc0⟩ := hr.cells 0 (by simp)
  obtain rfl : Value.int .i64 x = u := by simpa using hu
  rw [show ad.add 0 = ad from by simp [Addr.add]] at hc0
  have c1 : w.cell? ⟨bx, 1, none⟩ = some (.slice (some ad) (l.length + 1) c) := (cell_of_row w bx 1 _ _ _ hv).trans (by simp)
  have f1 : w.frozen? ⟨bx, 1, none⟩ = false := frozen_of_row w bx 1 _ _ hv
  have hlc : l.length + 1 ≤ c := by
    rcases hr with ⟨h, _⟩ | ⟨g, off, cap, cur, h, _, _, h1, _⟩
    · cases h
    · injection h with _ _ h
      subst h
      simpa using h1
  have hne : (⟨bx, 1, none⟩ : Addr) ≠ ad := by
    intro he
    rcases hr.lt ad.block rfl with ⟨h1, _⟩
    rw [← he] at h1
    simp at h1
    omega
  have hi1 : (1 : Int) ≤ (c : Int) := by omega
  have hi2 : (1 : Int) ≤ ((l.length : Int) + 1) := by omega
  have hi3 : ((l.length : Int) + 1) ≤ (c : Int) := by omega
  have ht := hr.tail
  have HV := Lib.hid hv
  have HN := Lib.hid hne
  clear hv hu hne
  simp only [List.map_cons, List.length_cons, List.length_map, Nat.add_sub_cancel] at ht
  by_cases h1 : c = 1
  · subst h1
    obtain rfl : l = [] := List.eq_nil_of_length_eq_zero (by omega)
    rw [if_pos rfl] at ht
    go_enter Try.func13, Try.ntmps13
    go_wp2
    go_ret2
    exact ⟨rfl, ⟨hb, by simpa [World.setCell] using hs, .slice (some ad) 0 0, (heap_setCell_same _ _ _ _ _ _ HV.out).trans rfl, ht.keep fun k _ hk => Below.heap_setCell _ _ _ _ (by show k ≠ bx; omega)⟩, Only.setCell (p := ⟨bx, 1, none⟩) (Only.refl _ _) (.inr (Nat.le_refl bx)) _⟩
  · rw [if_neg h1] at ht
    go_enter Try.func13, Try.ntmps13
    go_wp2
    go_ret2
    refine ⟨rfl, ⟨hb, by simpa [World.setCell] using hs, .slice (some (ad.add 1)) l.length (c - 1), (heap_setCell_same _ _ _ _ _ _ HV.out).trans rfl, ht.keep fun k _ hk => Below.heap_setCell _ _ _ _ (by show k ≠ bx; omega)⟩, Only.setCell (p := ⟨bx, 1, none⟩) (Only.refl _ _) (.inr (Nat.le_refl bx)) _⟩
set_option maxRecDepth 100000 in
theorem rdrain (base bx size : Nat) (l : List Int) (w : World) (hq : RQ w base bx size l) :
    Calls Try.prog 16 #[.pointer (some ⟨bx, 0, none⟩)] w fun e w' => ∃ A c, e = .returned (.slice A l.length c) ∧ QRow w' base 3 (.slice A l.length c) (l.map (Value.int .i64)) ∧ RQ w' base bx size [] ∧ Only (· = bx) w w' := by
  obtain ⟨hb, hs, v, hv, hr⟩ := hq
  obtain ⟨A, c, rfl⟩ := hr.slice_
  rw [List.length_map] at hr hv
  have c1 : w.cell? ⟨bx, 1, none⟩ = some (.slice A l.length c) := (cell_of_row w bx 1 _ _ _ hv).trans rfl
  have f1 : w.frozen? ⟨bx, 1, none⟩ = false := frozen_of_row w bx 1 _ _ hv
  have HV := Lib.hid hv
  clear hv
  go_enter Try.func16, Try.ntmps16
  go_wp2
  go_ret
  refine ⟨A, c, rfl, hr.keep fun k _ hk => Below.heap_setCell _ _ _ _ (by show k ≠ bx; omega), ⟨hb, by simpa [World.setCell] using hs, .slice none 0 0, (heap_setCell_same _ _ _ _ _ _ HV.out).trans rfl, .inl ⟨rfl, rfl⟩⟩, Only.setCell (S := fun k => k = bx) (p := ⟨bx, 1, none⟩) (Only.refl _ _) (.inr rfl) _⟩
end Go.Proofs.Ytonekffcanlmeaa
