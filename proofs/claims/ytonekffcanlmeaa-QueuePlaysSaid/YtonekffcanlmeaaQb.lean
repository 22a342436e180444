/- A queue as the list of what waits in it: what New, Put, Take, Len, Room and Drain do to that list, whatever else is in memory. -/
import Derived.Test.YtonekffcanlmeaaQa
import Derived.Deep.LoopGhost
import Derived.Deep.AppendLies
import Derived.Deep.QuietTactic
import Derived.BigQuiet
namespace Go.Proofs.Ytonekffcanlmeaa
open Go.Conc Go.RowKit

/-- Of the blocks that were there, those of S alone may have changed. -/
structure Only (S : Nat → Prop) (w w' : World) : Prop where
  os : w'.os = w.os
  tape : w'.tape = w.tape
  output : w'.output = w.output
  size : w.heap.size ≤ w'.heap.size
  block : ∀ k, k < w.heap.size → ¬ S k → w'.heap[k]? = w.heap[k]?
theorem Only.refl (S : Nat → Prop) (w : World) : Only S w w := ⟨rfl, rfl, rfl, Nat.le_refl _, fun _ _ _ => rfl⟩
theorem Only.trans {S : Nat → Prop} {a b c : World} (h : Only S a b) (k : Only S b c) : Only S a c :=
  ⟨k.os.trans h.os, k.tape.trans h.tape, k.output.trans h.output, Nat.le_trans h.size k.size, fun i hi hn => (k.block i (Nat.lt_of_lt_of_le hi h.size) hn).trans (h.block i hi hn)⟩
theorem Only.mono {S T : Nat → Prop} {a b : World} (h : Only S a b) (hs : ∀ k, k < a.heap.size → S k → T k) : Only T a b :=
  ⟨h.os, h.tape, h.output, h.size, fun i hi hn => h.block i hi fun hS => hn (hs i hi hS)⟩
theorem Only.then {S T U : Nat → Prop} {a b c : World} (h : Only S a b) (k : Only T b c) (hs : ∀ i, i < a.heap.size → S i → U i) (ht : ∀ i, i < a.heap.size → T i → U i) : Only U a c :=
  ⟨k.os.trans h.os, k.tape.trans h.tape, k.output.trans h.output, Nat.le_trans h.size k.size, fun i hi hn => (k.block i (Nat.lt_of_lt_of_le hi h.size) (fun hT => hn (ht i hi hT))).trans (h.block i hi (fun hS => hn (hs i hi hS)))⟩
theorem Only.drewN {S : Nat → Prop} {a b : World} (h : Only S a b) (n : Nat) : Only S a (b.drewN n) := ⟨h.os, h.tape, h.output, h.size, h.block⟩
theorem Only.drew {S : Nat → Prop} {a b : World} (h : Only S a b) : Only S a b.drew := ⟨h.os, h.tape, h.output, h.size, h.block⟩
theorem Only.alloc {S : Nat → Prop} {a b : World} (h : Only S a b) (ob : Obj) : Only S a (b.alloc ob) :=
  ⟨h.os, h.tape, h.output, Nat.le_trans h.size (by simp), fun i hi hn => (Below.heap_alloc _ _ _ (Nat.lt_of_lt_of_le hi h.size)).trans (h.block i hi hn)⟩
theorem Only.below {S : Nat → Prop} {a b : World} (h : Only S a b) {B : Nat} (hB : ∀ k, S k → B ≤ k) (hs : B ≤ a.heap.size) : Below B a b :=
  ⟨h.os, h.tape, h.output, h.size, fun k hk => h.block k (by omega) (fun hS => by have := hB k hS; omega)⟩
theorem Only.of_below {a b : World} (S : Nat → Prop) (h : Below a.heap.size a b) : Only S a b := ⟨h.os, h.tape, h.output, h.size, fun k hk _ => h.block k hk⟩
theorem Only.grown {S : Nat → Prop} {a b c : World} {row : Option Nat} (h : Only S a b) (hg : b.grownBy c row) (hr : ∀ k, row = some k → a.heap.size ≤ k ∨ S k) : Only S a c :=
  ⟨hg.os.trans h.os, hg.tape.trans h.tape, hg.output.trans h.output, Nat.le_trans h.size hg.size, fun i hi hn => (hg.block i (Nat.lt_of_lt_of_le hi h.size) (fun e => by
    rcases hr i e.symm with h1 | h1
    · omega
    · exact hn h1)).trans (h.block i hi hn)⟩
theorem Only.grownBy {S : Nat → Prop} {a b : World} (h : Only S a b) (c : Nat) (hs : ∀ k, S k → k = c) : a.grownBy b (some c) :=
  ⟨h.os, h.tape, h.output, h.size, fun k hk hne => h.block k hk (fun hS => hne (by rw [hs k hS]))⟩
theorem Only.setCell {S : Nat → Prop} {a b : World} (h : Only S a b) {p : Addr} (hp : a.heap.size ≤ p.block ∨ S p.block) (u : Value) : Only S a (b.setCell p u) :=
  ⟨h.os, h.tape, h.output, by simpa [World.setCell] using h.size, fun i hi hn => by
    by_cases e : i = p.block
    · subst e
      rcases hp with hp | hp
      · omega
      · exact absurd hp hn
    · exact (Below.heap_setCell _ _ _ _ e).trans (h.block i hi hn)⟩
theorem only_setChan (w : World) (c cap : Nat) (buf : Array Value) (cl : Bool) (s r : Nat) (tm : Bool) : Only (· = c) w (w.setChan c cap buf cl s r tm) :=
  ⟨rfl, rfl, rfl, by simp [World.setChan], fun k _ hk => by simp only [World.setChan]; rw [Array.getElem?_setIfInBounds_ne (fun e => hk e.symm)]⟩

/-- A queue whose box is block b (of type T) and whose channel is block c: what waits in it is the list l. -/
def QAt (w : World) (T b c cap : Nat) (l : List Value) : Prop :=
  w.heap[b]? = some (.cells #[.chan (some c)] T (0, 0)) ∧ ∃ s r, w.heap[c]? = some (.chan cap l.toArray false s r false)
theorem heap_lt {w : World} {k : Nat} {ob : Obj} (h : w.heap[k]? = some ob) : k < w.heap.size := (Array.getElem?_eq_some_iff.1 h).1
theorem QAt.ltb {w : World} {T b c cap : Nat} {l : List Value} (h : QAt w T b c cap l) : b < w.heap.size := heap_lt h.1
theorem QAt.ltc {w : World} {T b c cap : Nat} {l : List Value} (h : QAt w T b c cap l) : c < w.heap.size := by obtain ⟨_, s, r, hc⟩ := h; exact heap_lt hc
theorem QAt.ne {w : World} {T b c cap : Nat} {l : List Value} (h : QAt w T b c cap l) : b ≠ c := by
  obtain ⟨hb, s, r, hc⟩ := h
  rintro rfl
  rw [hb] at hc
  cases hc
theorem QAt.cell {w : World} {T b c cap : Nat} {l : List Value} (h : QAt w T b c cap l) : w.cell? ⟨b, 0, none⟩ = some (.chan (some c)) := by rw [cell_of_row w b 0 _ _ _ h.1]; rfl
theorem QAt.only {w w' : World} {T b c cap : Nat} {l : List Value} {S : Nat → Prop} (h : QAt w T b c cap l) (ho : Only S w w') (hb : ¬ S b) (hc : ¬ S c) : QAt w' T b c cap l := by
  have h1 := h.ltb
  have h2 := h.ltc
  obtain ⟨hb', s, r, hc'⟩ := h
  exact ⟨(ho.block b h1 hb).trans hb', s, r, (ho.block c h2 hc).trans hc'⟩
theorem QAt.set {w : World} {T b c cap : Nat} {l l' : List Value} (h : QAt w T b c cap l) (s r : Nat) : QAt (w.setChan c cap l'.toArray false s r false) T b c cap l' :=
  ⟨((only_setChan w c cap l'.toArray false s r false).block b h.ltb h.ne).trans h.1, s, r, heap_setChan w c cap _ false s r false h.ltc⟩
/-- A row of cells is no channel. -/
theorem own_chan_ne {w : World} {T b c cap : Nat} {l : List Value} {base e size n : Nat} {v : Value} {xs : List Value} (h : w.ownsRow base e size v n xs) (hq : QAt w T b c cap l) : some c ≠ v.ownBlock := by
  obtain ⟨_, s, r, hc⟩ := hq
  rcases h.2 with ⟨rfl, _⟩ | ⟨g, cp, cur, rfl, _, hh, _⟩
  · simp [Value.ownBlock]
  · intro he
    have : c = g := by simpa [Value.ownBlock] using he
    subst this
    rw [hh] at hc
    cases hc
/-- What is sent or received leaves a row alone. -/
theorem own_only {w w' : World} {T b c cap : Nat} {l : List Value} {base e size n : Nat} {v : Value} {xs : List Value} (h : w.ownsRow base e size v n xs) (hq : QAt w T b c cap l) (ho : Only (· = c) w w') : w'.ownsRow base e size v n xs :=
  h.kept (ho.grownBy c fun _ h => h) (.inr (own_chan_ne h hq).symm)
/-- An append to a row of other elements than the box's leaves the queue alone. -/
theorem QAt.after {w w' : World} {T b c cap : Nat} {l : List Value} {base e size n : Nat} {v : Value} {xs : List Value} {ob : Obj} (hq : QAt w T b c cap l) (h : w.ownsRow base e size v n xs) (hg : (w.alloc ob).grownBy w' v.ownBlock) (hT : e ≠ T) : QAt w' T b c cap l := by
  have hb := hq.ltb
  have hc := hq.ltc
  have hn := own_chan_ne h hq
  obtain ⟨hb', s, r, hc'⟩ := hq
  refine ⟨?_, s, r, ?_⟩
  · rw [hg.block b (by simp; omega) ?_, Below.heap_alloc _ _ _ hb]
    · exact hb'
    · rcases h.2 with ⟨rfl, _⟩ | ⟨g, cp, cur, rfl, _, hh, _⟩
      · simp [Value.ownBlock]
      · intro he
        have : b = g := by simpa [Value.ownBlock] using he
        subst this
        rw [hh] at hb'
        injection hb' with hb'
        injection hb' with _ ht
        exact hT ht
  · rw [hg.block c (by simp; omega) hn, Below.heap_alloc _ _ _ hc]
    exact hc'
theorem QAt.drewN {w : World} {T b c cap : Nat} {l : List Value} (h : QAt w T b c cap l) (n : Nat) : QAt (w.drewN n) T b c cap l := h

/-! ### int -/
theorem info_i : (Try.prog.info? 3).map (fun i => (i.zero, i.size, i.bytes)) = some (some (.int .i64 0), 1, 8) := by kernel_rfl
theorem mk_i (n : Nat) (hn : n ≤ 65536) (w : World) : (Instr.makeChan 58 (.int .i64 (n : Int))).run Try.prog w = .ok (.chan (some w.heap.size)) (w.alloc (.chan n #[] false 0 0 false)) := by
  obtain ⟨i, hi, hz0, hz1, hz2⟩ := info_parts info_i
  exact run_makeChan (P := Try.prog) (w := w) Try.underlying58 hi .i64 n (by omega) (by rw [hz2]; omega)

set_option maxRecDepth 100000 in
theorem newi_bad (size : Int) (h : size < 1 ∨ 65536 < size) (w : World) :
    Calls Try.prog 7 #[.int .i64 size] w fun e w' => e = .returned (.tuple #[.pointer none, .int .i64 1]) ∧ w' = w := by
  by_cases h1 : size < 1
  · go_enter Try.func7, Try.ntmps7
    go_wp2
    go_ret2
    exact ⟨rfl, rfl⟩
  · have h2 : 65536 < size := by omega
    go_enter Try.func7, Try.ntmps7
    go_wp2
    go_ret2
    exact ⟨rfl, rfl⟩

set_option maxRecDepth 100000 in
theorem newi_good (n : Nat) (h1 : 1 ≤ n) (h2 : n ≤ 65536) (w : World) :
    Calls Try.prog 7 #[.int .i64 (n : Int)] w fun e w' => e = .returned (.tuple #[.pointer (some ⟨w.heap.size + 1, 0, none⟩), .int .i64 0]) ∧ Below w.heap.size w w' ∧ w'.heap.size = w.heap.size + 2 ∧ QAt w' 60 (w.heap.size + 1) w.heap.size n [] := by
  have hm := mk_i n h2
  have h3 : (1 : Int) ≤ (n : Int) := by omega
  have h4 : (n : Int) ≤ 65536 := by omega
  go_enter Try.func7, Try.ntmps7
  go_wp2
  go_ret2
  refine ⟨rfl, ((Below.refl _ _).alloc (Nat.le_refl _) _).alloc (by simp) _, by simp, ?_, 0, 0, ?_⟩
  · have := heap_alloc_new (w.alloc (.chan n #[] false 0 0 false)) (.cells #[.chan (some w.heap.size)] 60)
    simpa only [World.size_alloc] using this
  · rw [Below.heap_alloc _ _ _ (by simp)]
    exact heap_alloc_new w _

theorem puti (T b c cap : Nat) (l : List Value) (x : Value) (w : World) (hq : QAt w T b c cap l) :
    Calls Try.prog 10 #[.pointer (some ⟨b, 0, none⟩), x] w fun e w' => e = .returned (.bool (decide (l.length < cap))) ∧ QAt w' T b c cap (if l.length < cap then l ++ [x] else l) ∧ Only (· = c) w w' := by
  have hcell := hq.cell
  obtain ⟨hb, s, r, hc⟩ := id hq
  by_cases h : l.length < cap
  · refine (puti_room b c cap l.toArray s r x w hcell hc (by simpa using h)).mono ?_
    rintro e w' ⟨rfl, rfl⟩
    rw [if_pos h, decide_eq_true h]
    exact ⟨rfl, by simpa using hq.set (l' := l ++ [x]) (s + 1) r, only_setChan _ _ _ _ _ _ _ _⟩
  · refine (puti_full b c cap l.toArray s r x w hcell hc (by simpa using h)).mono ?_
    rintro e w' ⟨rfl, rfl⟩
    rw [if_neg h, decide_eq_false h]
    exact ⟨rfl, hq, Only.refl _ _⟩

theorem puti_yes (T b c cap : Nat) (l : List Value) (x : Value) (w : World) (hq : QAt w T b c cap l) (h : l.length < cap) :
    Calls Try.prog 10 #[.pointer (some ⟨b, 0, none⟩), x] w fun e w' => e = .returned (.bool true) ∧ QAt w' T b c cap (l ++ [x]) ∧ Only (· = c) w w' := by
  refine (puti T b c cap l x w hq).mono ?_
  rintro e w' ⟨he, hq', ho⟩
  rw [if_pos h] at hq'
  rw [decide_eq_true h] at he
  exact ⟨he, hq', ho⟩
theorem puti_no (T b c cap : Nat) (l : List Value) (x : Value) (w : World) (hq : QAt w T b c cap l) (h : cap ≤ l.length) :
    Calls Try.prog 10 #[.pointer (some ⟨b, 0, none⟩), x] w fun e w' => e = .returned (.bool false) ∧ QAt w' T b c cap l ∧ Only (· = c) w w' := by
  refine (puti T b c cap l x w hq).mono ?_
  rintro e w' ⟨he, hq', ho⟩
  rw [if_neg (by omega)] at hq'
  rw [decide_eq_false (by omega)] at he
  exact ⟨he, hq', ho⟩

theorem takei (T b c cap : Nat) (l : List Value) (w : World) (hq : QAt w T b c cap l) :
    Calls Try.prog 12 #[.pointer (some ⟨b, 0, none⟩)] w fun e w' => e = .returned (.tuple #[l.headD (.int .i64 0), .bool (!l.isEmpty)]) ∧ QAt w' T b c cap l.tail ∧ Only (· = c) w w' := by
  have hcell := hq.cell
  obtain ⟨hb, s, r, hc⟩ := id hq
  cases l with
  | nil =>
    refine (takei_none b c cap s r w hcell hc).mono ?_
    rintro e w' ⟨rfl, rfl⟩
    exact ⟨rfl, hq, Only.refl _ _⟩
  | cons x l =>
    refine (takei_some b c cap (x :: l).toArray s r w hcell hc (by simp)).mono ?_
    rintro e w' ⟨rfl, rfl⟩
    refine ⟨by simp, ?_, only_setChan _ _ _ _ _ _ _ _⟩
    have h1 : (x :: l).toArray.extract 1 (x :: l).toArray.size = l.toArray := by simp
    rw [h1]
    exact hq.set s (r + 1)

set_option maxRecDepth 100000 in
theorem leni (T b c cap : Nat) (l : List Value) (w : World) (hq : QAt w T b c cap l) :
    Calls Try.prog 17 #[.pointer (some ⟨b, 0, none⟩)] w fun e w' => e = .returned (.int .i64 (l.length : Int)) ∧ w = w' := by
  have hcell := hq.cell
  obtain ⟨hb, s, r, hc⟩ := hq
  have hlen := fun ty => run_len_chan (P := Try.prog) 58 ty Try.underlying58 hc
  clear hb hc
  go_enter Try.func17, Try.ntmps17
  go_wp2
  go_ret
  exact ⟨by simp, rfl⟩
set_option maxRecDepth 100000 in
theorem leni_nil (w : World) : Calls Try.prog 17 #[.pointer none] w fun e w' => e = .returned (.int .i64 0) ∧ w = w' := by
  go_enter Try.func17, Try.ntmps17
  go_wp2
  go_ret
  exact ⟨rfl, rfl⟩

set_option maxRecDepth 100000 in
theorem roomi (T b c cap : Nat) (l : List Value) (w : World) (hq : QAt w T b c cap l) (hl : l.length ≤ cap) (hcap : cap ≤ 65536) :
    Calls Try.prog 18 #[.pointer (some ⟨b, 0, none⟩)] w fun e w' => e = .returned (.int .i64 ((cap : Int) - (l.length : Int))) ∧ ∃ n, w' = w.drewN n := by
  have hcell := hq.cell
  obtain ⟨hb, s, r, hc⟩ := hq
  have hlen := fun ty => run_len_chan (P := Try.prog) 58 ty Try.underlying58 (show w.drew.heap[c]? = _ from hc)
  have hcp := fun ty => run_cap_chan (P := Try.prog) 58 ty Try.underlying58 (show w.drew.heap[c]? = _ from hc)
  clear hb hc
  simp only [List.size_toArray, goInt] at hlen hcp
  go_enter Try.func18, Try.ntmps18
  go_wp2
  go_region
  all_goals (go_wp2; go_ret; exact ⟨rfl, 1, rfl⟩)
set_option maxRecDepth 100000 in
theorem roomi_nil (w : World) : Calls Try.prog 18 #[.pointer none] w fun e w' => e = .returned (.int .i64 0) ∧ w = w' := by
  go_enter Try.func18, Try.ntmps18
  go_wp2
  go_ret
  exact ⟨rfl, rfl⟩

set_option maxRecDepth 100000 in
theorem draini (T b c cap : Nat) (l : List Value) (w : World) (hT : 3 ≠ T) (hq : QAt w T b c cap l) (hl : l.length ≤ 65536) (h1 : ∀ u ∈ l, ∃ n : Int, u = .int .i64 n) :
    Calls Try.prog 15 #[.pointer (some ⟨b, 0, none⟩)] w fun e w' => ∃ v, e = .returned v ∧ w'.ownsRow w.heap.size 3 1 v l.length l ∧ QAt w' T b c cap [] ∧ Only (· = c) w w' := by
  obtain ⟨i0, hi, hz0, hz1, hz2⟩ := info_parts info_i
  go_enter Try.func15, Try.ntmps15
  go_wp2
  go_loopg [3] (l.length + 1) (fun k v wr => ∃ j, Hid (k = l.length + 1 - j) ∧ j ≤ l.length ∧ wr.ownsRow w.heap.size 3 1 v j (l.take j) ∧ QAt wr T b c cap (l.drop j) ∧ Only (· = c) w wr)
  case atStart => exact ⟨0, rfl, Nat.zero_le _, World.ownsRow_nil _ _ _ _, hq, Only.refl _ _⟩
  case round =>
    obtain ⟨j, hk, hj, hown, hqr, ho⟩ := hrel
    by_cases hlt : j < l.length
    · have hd : l.drop j = l[j] :: l.drop (j + 1) := List.drop_eq_getElem_cons hlt
      have hu := h1 _ (List.getElem_mem hlt)
      rw [hd] at hqr
      generalize hx : l[j] = x at hqr hu
      have HX : Hid (l[j] = x) := hx
      clear hx hd
      obtain ⟨n, rfl⟩ := hu
      go_wp2_with (first
        | (go_at_call 12; refine (takei _ _ _ _ _ _ hqr).mono ?_; rintro e w1 ⟨rfl, hq1, ho1⟩; simp only [List.headD_cons, List.tail_cons, List.isEmpty_cons, Bool.not_false] at hq1 ⊢; have hown1 := own_only hown hqr ho1; have hB1 : w.heap.size ≤ w1.heap.size := Nat.le_trans ho.size ho1.size)
        | (at_builtin; refine wpList_append_own _ rfl _ _ 37 rfl w.heap.size 3 i0 (.int .i64 0) 1 8 Try.underlying37 hi hz0 hz1 hz2 rfl (by omega) _ _ _ rfl (hown1.alloc _) ⟨w1.heap.size, 0, none⟩ 1 1 [.int .i64 n] rfl rfl ?c1 ?c2 ?c3 ?c4 ?c5 ?_))
      case c1 =>
        intro i u hi'
        match i, hi' with
        | 0, hi' => simp at hi'; subst hi'; simp [Addr.add]
      case c2 => intro u hu'; simp at hu'; subst hu'; rfl
      case c3 => unfold maxLen; omega
      case c4 => omega
      case c5 => simp; omega
      intro v2 w2 hown2 hg2 _
      have hq2 : QAt w2 T b c cap (l.drop (j + 1)) := hq1.after hown1 hg2 hT
      have ho2 : Only (· = c) w w2 := ((ho.trans ho1).alloc _).grown hg2 (fun k hk => .inl (hown1.lt k hk).1)
      have hTk : l.take j ++ [.int .i64 n] = l.take (j + 1) := by rw [List.take_add_one, List.getElem?_eq_getElem hlt, HX.out]; rfl
      rw [hTk] at hown2
      clear hTk hown1 hq1 ho1 hg2 hown hqr ho
      go_wp2
      go_roundg (gk - 1)
      case measure => have := hk.out; omega
      case rel => exact ⟨j + 1, (by have := hk.out; show _ = _; omega), by omega, hown2, hq2, ho2⟩
    · obtain rfl : j = l.length := by omega
      rw [List.drop_length] at hqr
      rw [List.take_length] at hown
      go_wp2_with (go_at_call 12; refine (takei _ _ _ _ _ _ hqr).mono ?_; rintro e w1 ⟨rfl, hq1, ho1⟩; simp only [List.headD_nil, List.tail_nil, List.isEmpty_nil, Bool.not_true] at hq1 ⊢; have hown1 := own_only hown hqr ho1)
      go_ret
      exact ⟨_, rfl, hown1, hq1, ho.trans ho1⟩

/-! ### string -/
theorem info_s : (Try.prog.info? 9).map (fun i => (i.zero, i.size, i.bytes)) = some (some (.string ⟨#[]⟩), 1, 16) := by kernel_rfl
theorem mk_s (n : Nat) (hn : n ≤ 65536) (w : World) : (Instr.makeChan 61 (.int .i64 (n : Int))).run Try.prog w = .ok (.chan (some w.heap.size)) (w.alloc (.chan n #[] false 0 0 false)) := by
  obtain ⟨i, hi, hz0, hz1, hz2⟩ := info_parts info_s
  exact run_makeChan (P := Try.prog) (w := w) Try.underlying61 hi .i64 n (by omega) (by rw [hz2]; omega)

set_option maxRecDepth 100000 in
theorem news_bad (size : Int) (h : size < 1 ∨ 65536 < size) (w : World) :
    Calls Try.prog 19 #[.int .i64 size] w fun e w' => e = .returned (.tuple #[.pointer none, .int .i64 1]) ∧ w' = w := by
  by_cases h1 : size < 1
  · go_enter Try.func19, Try.ntmps19
    go_wp2
    go_ret2
    exact ⟨rfl, rfl⟩
  · have h2 : 65536 < size := by omega
    go_enter Try.func19, Try.ntmps19
    go_wp2
    go_ret2
    exact ⟨rfl, rfl⟩

set_option maxRecDepth 100000 in
theorem news_good (n : Nat) (h1 : 1 ≤ n) (h2 : n ≤ 65536) (w : World) :
    Calls Try.prog 19 #[.int .i64 (n : Int)] w fun e w' => e = .returned (.tuple #[.pointer (some ⟨w.heap.size + 1, 0, none⟩), .int .i64 0]) ∧ Below w.heap.size w w' ∧ w'.heap.size = w.heap.size + 2 ∧ QAt w' 63 (w.heap.size + 1) w.heap.size n [] := by
  have hm := mk_s n h2
  have h3 : (1 : Int) ≤ (n : Int) := by omega
  have h4 : (n : Int) ≤ 65536 := by omega
  go_enter Try.func19, Try.ntmps19
  go_wp2
  go_ret2
  refine ⟨rfl, ((Below.refl _ _).alloc (Nat.le_refl _) _).alloc (by simp) _, by simp, ?_, 0, 0, ?_⟩
  · have := heap_alloc_new (w.alloc (.chan n #[] false 0 0 false)) (.cells #[.chan (some w.heap.size)] 63)
    simpa only [World.size_alloc] using this
  · rw [Below.heap_alloc _ _ _ (by simp)]
    exact heap_alloc_new w _

theorem puts (T b c cap : Nat) (l : List Value) (x : Value) (w : World) (hq : QAt w T b c cap l) :
    Calls Try.prog 20 #[.pointer (some ⟨b, 0, none⟩), x] w fun e w' => e = .returned (.bool (decide (l.length < cap))) ∧ QAt w' T b c cap (if l.length < cap then l ++ [x] else l) ∧ Only (· = c) w w' := by
  have hcell := hq.cell
  obtain ⟨hb, s, r, hc⟩ := id hq
  by_cases h : l.length < cap
  · refine (puts_room b c cap l.toArray s r x w hcell hc (by simpa using h)).mono ?_
    rintro e w' ⟨rfl, rfl⟩
    rw [if_pos h, decide_eq_true h]
    exact ⟨rfl, by simpa using hq.set (l' := l ++ [x]) (s + 1) r, only_setChan _ _ _ _ _ _ _ _⟩
  · refine (puts_full b c cap l.toArray s r x w hcell hc (by simpa using h)).mono ?_
    rintro e w' ⟨rfl, rfl⟩
    rw [if_neg h, decide_eq_false h]
    exact ⟨rfl, hq, Only.refl _ _⟩

theorem puts_yes (T b c cap : Nat) (l : List Value) (x : Value) (w : World) (hq : QAt w T b c cap l) (h : l.length < cap) :
    Calls Try.prog 20 #[.pointer (some ⟨b, 0, none⟩), x] w fun e w' => e = .returned (.bool true) ∧ QAt w' T b c cap (l ++ [x]) ∧ Only (· = c) w w' := by
  refine (puts T b c cap l x w hq).mono ?_
  rintro e w' ⟨he, hq', ho⟩
  rw [if_pos h] at hq'
  rw [decide_eq_true h] at he
  exact ⟨he, hq', ho⟩
theorem puts_no (T b c cap : Nat) (l : List Value) (x : Value) (w : World) (hq : QAt w T b c cap l) (h : cap ≤ l.length) :
    Calls Try.prog 20 #[.pointer (some ⟨b, 0, none⟩), x] w fun e w' => e = .returned (.bool false) ∧ QAt w' T b c cap l ∧ Only (· = c) w w' := by
  refine (puts T b c cap l x w hq).mono ?_
  rintro e w' ⟨he, hq', ho⟩
  rw [if_neg (by omega)] at hq'
  rw [decide_eq_false (by omega)] at he
  exact ⟨he, hq', ho⟩

theorem takes (T b c cap : Nat) (l : List Value) (w : World) (hq : QAt w T b c cap l) :
    Calls Try.prog 21 #[.pointer (some ⟨b, 0, none⟩)] w fun e w' => e = .returned (.tuple #[l.headD (.string ⟨#[]⟩), .bool (!l.isEmpty)]) ∧ QAt w' T b c cap l.tail ∧ Only (· = c) w w' := by
  have hcell := hq.cell
  obtain ⟨hb, s, r, hc⟩ := id hq
  cases l with
  | nil =>
    refine (takes_none b c cap s r w hcell hc).mono ?_
    rintro e w' ⟨rfl, rfl⟩
    exact ⟨rfl, hq, Only.refl _ _⟩
  | cons x l =>
    refine (takes_some b c cap (x :: l).toArray s r w hcell hc (by simp)).mono ?_
    rintro e w' ⟨rfl, rfl⟩
    refine ⟨by simp, ?_, only_setChan _ _ _ _ _ _ _ _⟩
    have h1 : (x :: l).toArray.extract 1 (x :: l).toArray.size = l.toArray := by simp
    rw [h1]
    exact hq.set s (r + 1)

set_option maxRecDepth 100000 in
theorem lens (T b c cap : Nat) (l : List Value) (w : World) (hq : QAt w T b c cap l) :
    Calls Try.prog 23 #[.pointer (some ⟨b, 0, none⟩)] w fun e w' => e = .returned (.int .i64 (l.length : Int)) ∧ w = w' := by
  have hcell := hq.cell
  obtain ⟨hb, s, r, hc⟩ := hq
  have hlen := fun ty => run_len_chan (P := Try.prog) 61 ty Try.underlying61 hc
  clear hb hc
  go_enter Try.func23, Try.ntmps23
  go_wp2
  go_ret
  exact ⟨by simp, rfl⟩
set_option maxRecDepth 100000 in
theorem lens_nil (w : World) : Calls Try.prog 23 #[.pointer none] w fun e w' => e = .returned (.int .i64 0) ∧ w = w' := by
  go_enter Try.func23, Try.ntmps23
  go_wp2
  go_ret
  exact ⟨rfl, rfl⟩

set_option maxRecDepth 100000 in
theorem rooms (T b c cap : Nat) (l : List Value) (w : World) (hq : QAt w T b c cap l) (hl : l.length ≤ cap) (hcap : cap ≤ 65536) :
    Calls Try.prog 24 #[.pointer (some ⟨b, 0, none⟩)] w fun e w' => e = .returned (.int .i64 ((cap : Int) - (l.length : Int))) ∧ ∃ n, w' = w.drewN n := by
  have hcell := hq.cell
  obtain ⟨hb, s, r, hc⟩ := hq
  have hlen := fun ty => run_len_chan (P := Try.prog) 61 ty Try.underlying61 (show w.drew.heap[c]? = _ from hc)
  have hcp := fun ty => run_cap_chan (P := Try.prog) 61 ty Try.underlying61 (show w.drew.heap[c]? = _ from hc)
  clear hb hc
  simp only [List.size_toArray, goInt] at hlen hcp
  go_enter Try.func24, Try.ntmps24
  go_wp2
  go_region
  all_goals (go_wp2; go_ret; exact ⟨rfl, 1, rfl⟩)
set_option maxRecDepth 100000 in
theorem rooms_nil (w : World) : Calls Try.prog 24 #[.pointer none] w fun e w' => e = .returned (.int .i64 0) ∧ w = w' := by
  go_enter Try.func24, Try.ntmps24
  go_wp2
  go_ret
  exact ⟨rfl, rfl⟩

set_option maxRecDepth 100000 in
theorem drains (T b c cap : Nat) (l : List Value) (w : World) (hT : 9 ≠ T) (hq : QAt w T b c cap l) (hl : l.length ≤ 65536) (h1 : ∀ u ∈ l, ∃ n : ByteArray, u = .string n) :
    Calls Try.prog 22 #[.pointer (some ⟨b, 0, none⟩)] w fun e w' => ∃ v, e = .returned v ∧ w'.ownsRow w.heap.size 9 1 v l.length l ∧ QAt w' T b c cap [] ∧ Only (· = c) w w' := by
  obtain ⟨i0, hi, hz0, hz1, hz2⟩ := info_parts info_s
  go_enter Try.func22, Try.ntmps22
  go_wp2
  go_loopg [3] (l.length + 1) (fun k v wr => ∃ j, Hid (k = l.length + 1 - j) ∧ j ≤ l.length ∧ wr.ownsRow w.heap.size 9 1 v j (l.take j) ∧ QAt wr T b c cap (l.drop j) ∧ Only (· = c) w wr)
  case atStart => exact ⟨0, rfl, Nat.zero_le _, World.ownsRow_nil _ _ _ _, hq, Only.refl _ _⟩
  case round =>
    obtain ⟨j, hk, hj, hown, hqr, ho⟩ := hrel
    by_cases hlt : j < l.length
    · have hd : l.drop j = l[j] :: l.drop (j + 1) := List.drop_eq_getElem_cons hlt
      have hu := h1 _ (List.getElem_mem hlt)
      rw [hd] at hqr
      generalize hx : l[j] = x at hqr hu
      have HX : Hid (l[j] = x) := hx
      clear hx hd
      obtain ⟨n, rfl⟩ := hu
      go_wp2_with (first
        | (go_at_call 21; refine (takes _ _ _ _ _ _ hqr).mono ?_; rintro e w1 ⟨rfl, hq1, ho1⟩; simp only [List.headD_cons, List.tail_cons, List.isEmpty_cons, Bool.not_false] at hq1 ⊢; have hown1 := own_only hown hqr ho1; have hB1 : w.heap.size ≤ w1.heap.size := Nat.le_trans ho.size ho1.size)
        | (at_builtin; refine wpList_append_own _ rfl _ _ 43 rfl w.heap.size 9 i0 (.string ⟨#[]⟩) 1 16 Try.underlying43 hi hz0 hz1 hz2 rfl (by omega) _ _ _ rfl (hown1.alloc _) ⟨w1.heap.size, 0, none⟩ 1 1 [.string n] rfl rfl ?c1 ?c2 ?c3 ?c4 ?c5 ?_))
      case c1 =>
        intro i u hi'
        match i, hi' with
        | 0, hi' => simp at hi'; subst hi'; simp [Addr.add]
      case c2 => intro u hu'; simp at hu'; subst hu'; rfl
      case c3 => unfold maxLen; omega
      case c4 => omega
      case c5 => simp; omega
      intro v2 w2 hown2 hg2 _
      have hq2 : QAt w2 T b c cap (l.drop (j + 1)) := hq1.after hown1 hg2 hT
      have ho2 : Only (· = c) w w2 := ((ho.trans ho1).alloc _).grown hg2 (fun k hk => .inl (hown1.lt k hk).1)
      have hTk : l.take j ++ [.string n] = l.take (j + 1) := by rw [List.take_add_one, List.getElem?_eq_getElem hlt, HX.out]; rfl
      rw [hTk] at hown2
      clear hTk hown1 hq1 ho1 hg2 hown hqr ho
      go_wp2
      go_roundg (gk - 1)
      case measure => have := hk.out; omega
      case rel => exact ⟨j + 1, (by have := hk.out; show _ = _; omega), by omega, hown2, hq2, ho2⟩
    · obtain rfl : j = l.length := by omega
      rw [List.drop_length] at hqr
      rw [List.take_length] at hown
      go_wp2_with (go_at_call 21; refine (takes _ _ _ _ _ _ hqr).mono ?_; rintro e w1 ⟨rfl, hq1, ho1⟩; simp only [List.headD_nil, List.tail_nil, List.isEmpty_nil, Bool.not_true] at hq1 ⊢; have hown1 := own_only hown hqr ho1)
      go_ret
      exact ⟨_, rfl, hown1, hq1, ho.trans ho1⟩

/-! ### []int -/
theorem info_l : (Try.prog.info? 37).map (fun i => (i.zero, i.size, i.bytes)) = some (some (.slice none 0 0), 1, 24) := by kernel_rfl
theorem mk_l (n : Nat) (hn : n ≤ 65536) (w : World) : (Instr.makeChan 64 (.int .i64 (n : Int))).run Try.prog w = .ok (.chan (some w.heap.size)) (w.alloc (.chan n #[] false 0 0 false)) := by
  obtain ⟨i, hi, hz0, hz1, hz2⟩ := info_parts info_l
  exact run_makeChan (P := Try.prog) (w := w) Try.underlying64 hi .i64 n (by omega) (by rw [hz2]; omega)

set_option maxRecDepth 100000 in
theorem newl_bad (size : Int) (h : size < 1 ∨ 65536 < size) (w : World) :
    Calls Try.prog 25 #[.int .i64 size] w fun e w' => e = .returned (.tuple #[.pointer none, .int .i64 1]) ∧ w' = w := by
  by_cases h1 : size < 1
  · go_enter Try.func25, Try.ntmps25
    go_wp2
    go_ret2
    exact ⟨rfl, rfl⟩
  · have h2 : 65536 < size := by omega
    go_enter Try.func25, Try.ntmps25
    go_wp2
    go_ret2
    exact ⟨rfl, rfl⟩

set_option maxRecDepth 100000 in
theorem newl_good (n : Nat) (h1 : 1 ≤ n) (h2 : n ≤ 65536) (w : World) :
    Calls Try.prog 25 #[.int .i64 (n : Int)] w fun e w' => e = .returned (.tuple #[.pointer (some ⟨w.heap.size + 1, 0, none⟩), .int .i64 0]) ∧ Below w.heap.size w w' ∧ w'.heap.size = w.heap.size + 2 ∧ QAt w' 66 (w.heap.size + 1) w.heap.size n [] := by
  have hm := mk_l n h2
  have h3 : (1 : Int) ≤ (n : Int) := by omega
  have h4 : (n : Int) ≤ 65536 := by omega
  go_enter Try.func25, Try.ntmps25
  go_wp2
  go_ret2
  refine ⟨rfl, ((Below.refl _ _).alloc (Nat.le_refl _) _).alloc (by simp) _, by simp, ?_, 0, 0, ?_⟩
  · have := heap_alloc_new (w.alloc (.chan n #[] false 0 0 false)) (.cells #[.chan (some w.heap.size)] 66)
    simpa only [World.size_alloc] using this
  · rw [Below.heap_alloc _ _ _ (by simp)]
    exact heap_alloc_new w _

theorem putl (T b c cap : Nat) (l : List Value) (x : Value) (w : World) (hq : QAt w T b c cap l) :
    Calls Try.prog 26 #[.pointer (some ⟨b, 0, none⟩), x] w fun e w' => e = .returned (.bool (decide (l.length < cap))) ∧ QAt w' T b c cap (if l.length < cap then l ++ [x] else l) ∧ Only (· = c) w w' := by
  have hcell := hq.cell
  obtain ⟨hb, s, r, hc⟩ := id hq
  by_cases h : l.length < cap
  · refine (putl_room b c cap l.toArray s r x w hcell hc (by simpa using h)).mono ?_
    rintro e w' ⟨rfl, rfl⟩
    rw [if_pos h, decide_eq_true h]
    exact ⟨rfl, by simpa using hq.set (l' := l ++ [x]) (s + 1) r, only_setChan _ _ _ _ _ _ _ _⟩
  · refine (putl_full b c cap l.toArray s r x w hcell hc (by simpa using h)).mono ?_
    rintro e w' ⟨rfl, rfl⟩
    rw [if_neg h, decide_eq_false h]
    exact ⟨rfl, hq, Only.refl _ _⟩

theorem putl_yes (T b c cap : Nat) (l : List Value) (x : Value) (w : World) (hq : QAt w T b c cap l) (h : l.length < cap) :
    Calls Try.prog 26 #[.pointer (some ⟨b, 0, none⟩), x] w fun e w' => e = .returned (.bool true) ∧ QAt w' T b c cap (l ++ [x]) ∧ Only (· = c) w w' := by
  refine (putl T b c cap l x w hq).mono ?_
  rintro e w' ⟨he, hq', ho⟩
  rw [if_pos h] at hq'
  rw [decide_eq_true h] at he
  exact ⟨he, hq', ho⟩
theorem putl_no (T b c cap : Nat) (l : List Value) (x : Value) (w : World) (hq : QAt w T b c cap l) (h : cap ≤ l.length) :
    Calls Try.prog 26 #[.pointer (some ⟨b, 0, none⟩), x] w fun e w' => e = .returned (.bool false) ∧ QAt w' T b c cap l ∧ Only (· = c) w w' := by
  refine (putl T b c cap l x w hq).mono ?_
  rintro e w' ⟨he, hq', ho⟩
  rw [if_neg (by omega)] at hq'
  rw [decide_eq_false (by omega)] at he
  exact ⟨he, hq', ho⟩

theorem takel (T b c cap : Nat) (l : List Value) (w : World) (hq : QAt w T b c cap l) :
    Calls Try.prog 29 #[.pointer (some ⟨b, 0, none⟩)] w fun e w' => e = .returned (.tuple #[l.headD (.slice none 0 0), .bool (!l.isEmpty)]) ∧ QAt w' T b c cap l.tail ∧ Only (· = c) w w' := by
  have hcell := hq.cell
  obtain ⟨hb, s, r, hc⟩ := id hq
  cases l with
  | nil =>
    refine (takel_none b c cap s r w hcell hc).mono ?_
    rintro e w' ⟨rfl, rfl⟩
    exact ⟨rfl, hq, Only.refl _ _⟩
  | cons x l =>
    refine (takel_some b c cap (x :: l).toArray s r w hcell hc (by simp)).mono ?_
    rintro e w' ⟨rfl, rfl⟩
    refine ⟨by simp, ?_, only_setChan _ _ _ _ _ _ _ _⟩
    have h1 : (x :: l).toArray.extract 1 (x :: l).toArray.size = l.toArray := by simp
    rw [h1]
    exact hq.set s (r + 1)

set_option maxRecDepth 100000 in
theorem lenl (T b c cap : Nat) (l : List Value) (w : World) (hq : QAt w T b c cap l) :
    Calls Try.prog 27 #[.pointer (some ⟨b, 0, none⟩)] w fun e w' => e = .returned (.int .i64 (l.length : Int)) ∧ w = w' := by
  have hcell := hq.cell
  obtain ⟨hb, s, r, hc⟩ := hq
  have hlen := fun ty => run_len_chan (P := Try.prog) 64 ty Try.underlying64 hc
  clear hb hc
  go_enter Try.func27, Try.ntmps27
  go_wp2
  go_ret
  exact ⟨by simp, rfl⟩
set_option maxRecDepth 100000 in
theorem lenl_nil (w : World) : Calls Try.prog 27 #[.pointer none] w fun e w' => e = .returned (.int .i64 0) ∧ w = w' := by
  go_enter Try.func27, Try.ntmps27
  go_wp2
  go_ret
  exact ⟨rfl, rfl⟩

set_option maxRecDepth 100000 in
theorem drainl (T b c cap : Nat) (l : List Value) (w : World) (hT : 37 ≠ T) (hq : QAt w T b c cap l) (hl : l.length ≤ 65536) (h1 : ∀ u ∈ l, ∃ (a : Option Addr) (m cp : Nat), u = .slice a m cp) :
    Calls Try.prog 28 #[.pointer (some ⟨b, 0, none⟩)] w fun e w' => ∃ v, e = .returned v ∧ w'.ownsRow w.heap.size 37 1 v l.length l ∧ QAt w' T b c cap [] ∧ Only (· = c) w w' := by
  obtain ⟨i0, hi, hz0, hz1, hz2⟩ := info_parts info_l
  go_enter Try.func28, Try.ntmps28
  go_wp2
  go_loopg [3] (l.length + 1) (fun k v wr => ∃ j, Hid (k = l.length + 1 - j) ∧ j ≤ l.length ∧ wr.ownsRow w.heap.size 37 1 v j (l.take j) ∧ QAt wr T b c cap (l.drop j) ∧ Only (· = c) w wr)
  case atStart => exact ⟨0, rfl, Nat.zero_le _, World.ownsRow_nil _ _ _ _, hq, Only.refl _ _⟩
  case round =>
    obtain ⟨j, hk, hj, hown, hqr, ho⟩ := hrel
    by_cases hlt : j < l.length
    · have hd : l.drop j = l[j] :: l.drop (j + 1) := List.drop_eq_getElem_cons hlt
      have hu := h1 _ (List.getElem_mem hlt)
      rw [hd] at hqr
      generalize hx : l[j] = x at hqr hu
      have HX : Hid (l[j] = x) := hx
      clear hx hd
      obtain ⟨a, m, cp, rfl⟩ := hu
      go_wp2_with (first
        | (go_at_call 29; refine (takel _ _ _ _ _ _ hqr).mono ?_; rintro e w1 ⟨rfl, hq1, ho1⟩; simp only [List.headD_cons, List.tail_cons, List.isEmpty_cons, Bool.not_false] at hq1 ⊢; have hown1 := own_only hown hqr ho1; have hB1 : w.heap.size ≤ w1.heap.size := Nat.le_trans ho.size ho1.size)
        | (at_builtin; refine wpList_append_own _ rfl _ _ 56 rfl w.heap.size 37 i0 (.slice none 0 0) 1 24 Try.underlying56 hi hz0 hz1 hz2 rfl (by omega) _ _ _ rfl (hown1.alloc _) ⟨w1.heap.size, 0, none⟩ 1 1 [.slice a m cp] rfl rfl ?c1 ?c2 ?c3 ?c4 ?c5 ?_))
      case c1 =>
        intro i u hi'
        match i, hi' with
        | 0, hi' => simp at hi'; subst hi'; simp [Addr.add]
      case c2 => intro u hu'; simp at hu'; subst hu'; rfl
      case c3 => unfold maxLen; omega
      case c4 => omega
      case c5 => simp; omega
      intro v2 w2 hown2 hg2 _
      have hq2 : QAt w2 T b c cap (l.drop (j + 1)) := hq1.after hown1 hg2 hT
      have ho2 : Only (· = c) w w2 := ((ho.trans ho1).alloc _).grown hg2 (fun k hk => .inl (hown1.lt k hk).1)
      have hTk : l.take j ++ [.slice a m cp] = l.take (j + 1) := by rw [List.take_add_one, List.getElem?_eq_getElem hlt, HX.out]; rfl
      rw [hTk] at hown2
      clear hTk hown1 hq1 ho1 hg2 hown hqr ho
      go_wp2
      go_roundg (gk - 1)
      case measure => have := hk.out; omega
      case rel => exact ⟨j + 1, (by have := hk.out; show _ = _; omega), by omega, hown2, hq2, ho2⟩
    · obtain rfl : j = l.length := by omega
      rw [List.drop_length] at hqr
      rw [List.take_length] at hown
      go_wp2_with (go_at_call 29; refine (takel _ _ _ _ _ _ hqr).mono ?_; rintro e w1 ⟨rfl, hq1, ho1⟩; simp only [List.headD_nil, List.tail_nil, List.isEmpty_nil, Bool.not_true] at hq1 ⊢; have hown1 := own_only hown hqr ho1)
      go_ret
      exact ⟨_, rfl, hown1, hq1, ho.trans ho1⟩
end Go.Proofs.Ytonekffcanlmeaa
