/- The laws' own helpers: field, weight, same, lent, kept: walked. -/
import Derived.Test.YtmjibpjnhehnnaaKp
import Derived.WalkLawsBesides
import Derived.Laws.AppendOwnNone
import Derived.Deep.Slices
namespace Go.Proofs.Ytmjibpjnhehnnaa
open Go.RowKit
attribute [local go_sem ↓] Go.wp_at_zero Go.wp_at_succ

/-- Fields that can be read at an address. -/
def FRow (w : World) (a : Option Addr) (n : Nat) (fs : List Tk.Fd) : Prop :=
  fs.length = n ∧ ∀ i, i < n → ∃ x : Addr, a = some x ∧ x.block < w.heap.size ∧ w.cell? (x.add (i * 2)) = some (.string (fs.getD i Tk.nil).1) ∧ w.cell? (x.add (i * 2 + 1)) = some (.string (fs.getD i Tk.nil).2)
theorem FRow.below {w w' : World} {a : Option Addr} {n B : Nat} {fs : List Tk.Fd} (h : FRow w a n fs) (hb : Below B w w') (hB : ∀ x, a = some x → x.block < B) : FRow w' a n fs := by
  refine ⟨h.1, fun i hi => ?_⟩
  obtain ⟨x, rfl, h1, h2, h3⟩ := h.2 i hi
  have hx := hB x rfl
  exact ⟨x, rfl, Nat.lt_of_lt_of_le h1 hb.size, (hb.cell (p := x.add (i * 2)) (by rw [add_block]; exact hx)).trans h2, (hb.cell (p := x.add (i * 2 + 1)) (by rw [add_block]; exact hx)).trans h3⟩
theorem FRow.keep {w w' : World} {a : Option Addr} {n : Nat} {fs : List Tk.Fd} (h : FRow w a n fs) (hb : Below w.heap.size w w') : FRow w' a n fs := by
  refine ⟨h.1, fun i hi => ?_⟩
  obtain ⟨x, rfl, h1, h2, h3⟩ := h.2 i hi
  exact ⟨x, rfl, Nat.lt_of_lt_of_le h1 hb.size, (hb.cell (p := x.add (i * 2)) (by rw [add_block]; exact h1)).trans h2, (hb.cell (p := x.add (i * 2 + 1)) (by rw [add_block]; exact h1)).trans h3⟩
theorem FRow.own {w : World} {base n c : Nat} {A : Option Addr} {fs : List Tk.Fd} (h : w.ownsRow base 57 2 (.slice A n c) n (fcells fs)) : FRow w A n fs := by
  have hl := h.1
  rw [fcells_length] at hl
  refine ⟨by omega, fun i hi => ?_⟩
  obtain ⟨g, rfl, _, hg, hc⟩ := own_fields h (by omega)
  obtain ⟨h1, h2⟩ := hc i hi
  exact ⟨⟨g, 0, none⟩, rfl, hg, by rw [Addr.add_mid, Nat.zero_add]; exact h1, by rw [Addr.add_mid, Nat.zero_add]; exact h2⟩

set_option maxRecDepth 100000 in
theorem lfield_any (w : World) (x y : ByteArray) : Calls Try.prog 26 #[.string x, .string y] w fun e w' => e = .returned (.agg #[.string x, .string y]) ∧ Below w.heap.size w w' := by
  have hB : Below w.heap.size w (w.alloc (.cells #[.string ⟨#[]⟩, .string ⟨#[]⟩] 57)) := (Below.refl _ _).alloc (Nat.le_refl _) _
  have hfz := heap_alloc_new w (.cells #[.string ⟨#[]⟩, .string ⟨#[]⟩] 57)
  go_enter Try.func26, Try.ntmps26
  go_upto_region 1 with fail
  generalize w.alloc (.cells #[.string ⟨#[]⟩, .string ⟨#[]⟩] 57) = w1 at *
  generalize hBB : w.heap.size = B at *
  have HBB := Lib.hid hBB
  have hb0 : w1.cell? ⟨B, 0, none⟩ = some (.string ⟨#[]⟩) := bcell_of hfz 0 _ rfl
  have hb1 : w1.cell? ⟨B, 1, none⟩ = some (.string ⟨#[]⟩) := bcell_of hfz 1 _ rfl
  have hz0 : w1.frozen? ⟨B, 0, none⟩ = false := frozen_of_row w1 B 0 _ _ hfz
  have hz1 : w1.frozen? ⟨B, 1, none⟩ = false := frozen_of_row w1 B 1 _ _ hfz
  clear hBB hfz
  go_wp2
  exact bodyPost_ret (v := .agg #[.string x, .string y]) (by simp [results, Try.results26, go_sem, hb0, hb1]) rfl ⟨rfl, by rw [HBB.out]; exact (hB.setCell (Nat.le_refl _) _).setCell (Nat.le_refl _) _⟩

theorem sum_take_succ (fs : List Tk.Fd) (k : Nat) (h : k < fs.length) : Tk.sum (fs.take (k + 1)) = Tk.sum (fs.take k) + Tk.wt (fs.getD k Tk.nil) := by
  have e : fs.take (k + 1) = fs.take k ++ [fs.getD k Tk.nil] := by
    rw [List.take_succ_eq_append_getElem h, List.getD_eq_getElem?_getD, List.getElem?_eq_getElem h]
    rfl
  rw [e, Tk.sum_append, Tk.sum_cons, Tk.sum_nil, Nat.add_zero]
theorem add_litk (a : Addr) (n : Nat) (h : n ≠ 0) : a.add n = { a with off := a.off + n, spot := none } := by unfold Addr.add; rw [if_neg h]
set_option maxRecDepth 100000 in
set_option maxHeartbeats 1000000 in
theorem lweight_any (w : World) (a : Option Addr) (n c : Nat) (fs : List Tk.Fd) (h : FRow w a n fs) (hs : Tk.sum fs ≤ 70368744177664) :
    Calls Try.prog 12 #[.slice a n c] w fun e w' => e = .returned (.int .i64 (Tk.sum fs : Int)) ∧ Below w.heap.size w w' := by
  have hcnt := Tk.sum_ge fs
  have hn := h.1
  have hbl : ∀ x, a = some x → 0 < n → x.block < w.heap.size := by
    intro x hx h0
    obtain ⟨x', h1, h2, _⟩ := h.2 0 h0
    rw [hx] at h1; injection h1 with h1; subst h1; exact h2
  have hnI : (n : Int) ≤ 70368744177664 := by omega
  have HN := Lib.hid hn
  have HBL := Lib.hid hbl
  clear hn hbl
  go_enter Try.func12, Try.ntmps12
  go_wp2
  go_loopw [3, 4] (fun s3 i4 wr => ∃ k : Nat, k ≤ n ∧ i4 = .int .i64 (k : Int) ∧ s3 = .int .i64 (Tk.sum (fs.take k) : Int) ∧ Below w.heap.size w wr) (fun _ i4 _ => n - (intOf i4).toNat)
  case atStart => exact ⟨0, Nat.zero_le _, rfl, rfl, Below.refl _ _⟩
  case round =>
    obtain ⟨k, hk, rfl, rfl, hB⟩ := hrel
    by_cases hlt : k < n
    · have hst := sum_take_succ fs k (by have := HN.out; omega)
      have hle := sum_take_le fs (k + 1)
      rw [hst] at hle
      obtain ⟨x0, rfl, hxb, hx0, hx1⟩ := h.2 k hlt
      have hr0 := (hB.cell (p := x0.add (k * 2)) (by rw [add_block]; exact hxb)).trans hx0
      have hr1 := (hB.cell (p := x0.add (k * 2 + 1)) (by rw [add_block]; exact hxb)).trans hx1
      have HST := Lib.hid hst
      clear hx0 hx1 hst
      generalize fs.getD k Tk.nil = f at *
      obtain ⟨x, y⟩ := f
      simp only at hr0 hr1
      rw [← Go.Deep.add_add x0 (k * 2) 1, add_litk _ 1 (by decide)] at hr1
      have hfit : Fits (x, y) := by unfold Tk.wt at hle; exact ⟨by simp only at *; omega, by simp only at *; omega⟩
      have hkI : (k : Int) < (n : Int) := by omega
      have hk0 : (0 : Int) ≤ (k : Int) := by omega
      have hadd : IntKind.i64.wrap ((Tk.sum (fs.take k) : Int) + (Tk.wt (x, y) : Int)) = ((Tk.sum (fs.take k) + Tk.wt (x, y) : Nat) : Int) := by rw [IntWalk.i64_in _ (by omega)]; omega
      have hsucc : IntKind.i64.wrap ((k : Int) + 1) = ((k + 1 : Nat) : Int) := by rw [IntWalk.i64_in _ (by omega)]; omega
      go_wp2_with fail
      refine (rweight_any wr x y hfit).mono ?_
      rintro e w3 ⟨rfl, hb3⟩
      have hB3 : Below w.heap.size w w3 := hB.trans (hb3.mono hB.size)
      clear hr0 hr1 hb3 hB
      go_wp2
      go_roundw
      case rel => exact ⟨k + 1, by omega, by go_num, by rw [HST.out]; go_num, hB3⟩
      case measure => simp [intOf] <;> omega
    · obtain rfl : k = n := by omega
      have htk : fs.take k = fs := List.take_of_length_le (by have := HN.out; omega)
      go_wp2
      go_ret
      rw [htk]
      exact ⟨rfl, hB⟩
set_option maxRecDepth 100000 in
set_option maxHeartbeats 1000000 in
theorem same_true (w : World) (a a2 : Option Addr) (n c c2 : Nat) (fs : List Tk.Fd) (h : FRow w a n fs) (h2 : FRow w a2 n fs) (hn : n ≤ 1099511627776) :
    Calls Try.prog 24 #[.slice a n c, .slice a2 n c2] w fun e w' => e = .returned (.bool true) ∧ Below w.heap.size w w' := by
  have hnI : (n : Int) ≤ 1099511627776 := by omega
  go_enter Try.func24, Try.ntmps24
  go_wp2
  go_loopw [5] (fun i5 wr => ∃ k : Nat, k ≤ n ∧ i5 = .int .i64 (k : Int) ∧ Below w.heap.size w wr) (fun i5 _ => n - (intOf i5).toNat)
  case atStart => exact ⟨0, Nat.zero_le _, rfl, Below.refl _ _⟩
  case round =>
    obtain ⟨k, hk, rfl, hB⟩ := hrel
    by_cases hlt : k < n
    · obtain ⟨x0, rfl, hxb, hx0, hx1⟩ := h.2 k hlt
      obtain ⟨y0, rfl, hyb, hy0, hy1⟩ := h2.2 k hlt
      have hr0 := (hB.cell (p := x0.add (k * 2)) (by rw [add_block]; exact hxb)).trans hx0
      have hr1 := (hB.cell (p := x0.add (k * 2 + 1)) (by rw [add_block]; exact hxb)).trans hx1
      have hs0 := (hB.cell (p := y0.add (k * 2)) (by rw [add_block]; exact hyb)).trans hy0
      have hs1 := (hB.cell (p := y0.add (k * 2 + 1)) (by rw [add_block]; exact hyb)).trans hy1
      clear hx0 hx1 hy0 hy1
      generalize fs.getD k Tk.nil = f at *
      obtain ⟨x, y⟩ := f
      simp only at hr0 hr1 hs0 hs1
      rw [← Go.Deep.add_add x0 (k * 2) 1, add_litk _ 1 (by decide)] at hr1
      rw [← Go.Deep.add_add y0 (k * 2) 1, add_litk _ 1 (by decide)] at hs1
      have hkI : (k : Int) < (n : Int) := by omega
      have hk0 : (0 : Int) ≤ (k : Int) := by omega
      have hsucc : IntKind.i64.wrap ((k : Int) + 1) = ((k + 1 : Nat) : Int) := by rw [IntWalk.i64_in _ (by omega)]; omega
      go_wp2
      go_quiet (fail)
      go_wp2
      go_roundw
      case rel => exact ⟨k + 1, by omega, by go_num, below_drewN' hB nq⟩
      case measure => simp [intOf] <;> omega
    · obtain rfl : k = n := by omega
      go_wp2
      go_ret
      exact ⟨rfl, hB⟩

/-- The marker behind what is lent. -/
def markF : Tk.Fd := (⟨#[45, 109, 97, 114, 107]⟩, ⟨#[]⟩)
section
variable {P : Program} {ops : Array Oper} {rest : List Oper} {o : Oper} {a : Act} {Q : Exit → Act → World → Prop}
set_option maxRecDepth 100000 in
/-- append(nil, l...) of fields that can be read. -/
theorem wpList_lent {W : World} (hgd : o.guard = none) (s x : Operand)
    (ho : o.op = .call { callee := .builtin .append, args := #[s, x], argTypes := #[28, 28] })
    (ad : Option Addr) (n c : Nat) (fs : List Tk.Fd) (hs : a.eval s = .slice none 0 0) (hx : a.eval x = .slice ad n c) (hF : FRow W ad n fs) (hnil : ad = none → c = 0) (hn : n ≤ 1099511627776)
    (h : ∀ v1 w1, w1.ownsRow W.heap.size 57 2 v1 n (fcells fs) → Below W.heap.size W w1 → wpList Try.prog ops Q rest (a.put o.dst v1) w1) :
    wpList Try.prog ops Q (o :: rest) a W := by
  obtain ⟨i0, hi, hz0, hz1, hz2⟩ := info_open info_fd
  have hl := hF.1
  cases ad with
  | none =>
    have hn0 : n = 0 := by
      rcases Nat.eq_zero_or_pos n with h0 | h0
      · exact h0
      · obtain ⟨x0, h1, _⟩ := hF.2 0 h0; cases h1
    have hc0 := hnil rfl
    subst hn0; subst hc0
    have hfs : fs = [] := List.eq_nil_of_length_eq_zero hl
    subst hfs
    exact wpList_append_own_none hgd s x 28 ho W.heap.size 57 i0 2 Try.underlying28 hi (.slice none 0 0) 0 [] hs (World.ownsRow_nil _ _ _ _) hx (h _ _ (World.ownsRow_nil _ _ _ _) (Below.refl _ _))
  | some x0 =>
    refine wpList_append_own_at W hgd s x 28 ho W.heap.size 57 i0 _ 2 32 Try.underlying28 hi hz0 hz1 hz2 rfl (by omega) (.slice none 0 0) 0 [] hs (World.ownsRow_nil _ _ _ _) x0 n c (fcells fs) hx (by rw [fcells_length, hl]) (fun j u hu => ?_) (fcells_one fs) (by unfold maxLen; omega) (by omega) (Nat.le_refl _) ?_
    · have hj : j < (fcells fs).length := (List.getElem?_eq_some_iff.1 hu).1
      rw [fcells_length, hl] at hj
      obtain ⟨x1, h1, _, h2, h3⟩ := hF.2 (j / 2) (by omega)
      injection h1 with h1
      subst h1
      obtain ⟨f0, f1⟩ := flat_at fs (j / 2) (by omega)
      rcases Nat.mod_two_eq_zero_or_one j with hm | hm
      · have e : j / 2 * 2 = j := by omega
        rw [e] at f0 h2
        rw [h2, ← f0]; exact hu
      · have e : j / 2 * 2 + 1 = j := by omega
        rw [e] at f1 h3
        rw [h3, ← f1]; exact hu
    · intro v1 w1 hown hg _ _
      refine h v1 w1 (by simpa using hown) ⟨hg.os, hg.tape, hg.output, hg.size, fun k hk => hg.block k hk (by simp [Value.ownBlock])⟩
end
/-- What is lent: a row of its own, the marker behind. -/
def Lent (w : World) (B g cap : Nat) (fs : List Tk.Fd) : Prop := w.ownsRow B 57 2 (.slice (some ⟨g, 0, none⟩) (fs.length + 1) cap) (fs.length + 1) (fcells (fs ++ [markF]))
theorem own_prefix {w : World} {B g n m cap : Nat} {fs gs : List Tk.Fd} (h : w.ownsRow B 57 2 (.slice (some ⟨g, 0, none⟩) n cap) n (fcells (fs ++ gs))) (hm : fs.length = m) : w.ownsRow B 57 2 (.slice (some ⟨g, 0, none⟩) m cap) m (fcells fs) := by
  have hl := h.1
  rw [fcells_length, List.length_append] at hl
  refine ⟨by rw [fcells_length, hm], ?_⟩
  rcases h.2 with ⟨hv, _⟩ | ⟨g', cap', cur, hv, hB, hh, hn, hc, hs, ht⟩
  · cases hv
  · injection hv with e1 e2 e3
    injection e1 with e1
    injection e1 with e1
    subst e1; subst e3
    refine .inr ⟨g, cap, cur, rfl, hB, hh, by omega, hc, hs, ?_⟩
    have e : fcells (fs ++ gs) = fcells fs ++ fcells gs := List.flatMap_append ..
    rw [e] at ht
    have h3 : (fcells fs).length = m * 2 := by rw [fcells_length, hm]
    have : (cur.toList.take (n * 2)).take (m * 2) = fcells fs := by rw [ht, ← h3, List.take_left]
    rw [List.take_take, Nat.min_eq_left (by omega)] at this
    exact this
theorem Lent.own {w : World} {B g cap : Nat} {fs : List Tk.Fd} (h : Lent w B g cap fs) : w.ownsRow B 57 2 (.slice (some ⟨g, 0, none⟩) fs.length cap) fs.length (fcells fs) := own_prefix h rfl
theorem Lent.cap {w : World} {B g cap : Nat} {fs : List Tk.Fd} (h : Lent w B g cap fs) : B ≤ g ∧ g < w.heap.size ∧ fs.length + 1 ≤ cap ∧ cap ≤ maxLen := by
  have h1 := h.lt g rfl
  rcases h.2 with ⟨hv, _⟩ | ⟨g', cap', cur, hv, hB, hh, hn, hc, _⟩
  · cases hv
  · injection hv with e1 e2 e3
    subst e3
    exact ⟨h1.1, h1.2, hn, hc⟩
def LentOut (w : World) (n : Nat) (fs : List Tk.Fd) (e : Ending) (w' : World) : Prop := ∃ g cap, e = .returned (.slice (some ⟨g, 0, none⟩) n cap) ∧ Lent w' w.heap.size g cap fs ∧ Below w.heap.size w w'
set_option maxRecDepth 100000 in
set_option maxHeartbeats 1000000 in
theorem lent_any (w : World) (a : Option Addr) (n c : Nat) (fs : List Tk.Fd) (h : FRow w a n fs) (hnil : a = none → c = 0) (hn : n ≤ 1099511627776) :
    Calls Try.prog 15 #[.slice a n c] w (LentOut w n fs) := by
  have hl := h.1
  have HL := Lib.hid hl
  clear hl
  go_enter Try.func15, Try.ntmps15
  go_wp2_with (at_builtin; go_must (refine wpList_lent rfl _ _ (by rfl) a n c fs (by rfl) (by rfl) h hnil hn ?_; intro v1 w1 hown1 hb1; obtain ⟨A1, c1, rfl⟩ := own_slice hown1))
  refine (lfield_any w1 _ _).mono ?_
  rintro e w2 ⟨rfl, hb2⟩
  have hown2 := own_only hown1 (Only.of_below (fun _ => False) hb2) (fun _ _ h => h)
  have hB2 : Below w.heap.size w w2 := hb1.trans (hb2.mono hb1.size)
  have hsz2 := hB2.size
  clear hown1 hb1 hb2 h
  go_wp2_with (at_builtin; go_must (refine wpList_fields (W := w2.alloc (.cells #[.string ⟨#[45, 109, 97, 114, 107]⟩, .string ⟨#[]⟩] 57)) w.heap.size w2.heap.size rfl _ _ (by rfl) (.slice A1 n c1) (.slice (some ⟨w2.heap.size, 0, none⟩) 1 1) n 1 fs [markF] (by rfl) (by rfl) (hown2.alloc _) (own_box w2 _ _) (by simp; omega) (by omega) ?_; intro v3 w3 hown3 hg3 hat3; obtain ⟨g3, c3, hv3, _, _⟩ := hown3.form (by omega); subst hv3; have hB3 : Below w.heap.size w w3 := (hB2.alloc hsz2 _).grown hg3 (by simp; omega) (fun k hk => (hown2.lt k hk).1); have hcap : n + 1 ≤ c3 ∧ c3 ≤ maxLen := (by rw [← HL.out] at hown3 ⊢; exact (Lent.cap (fs := fs) hown3).2.2); have hnI : (n : Int) ≤ (c3 : Int) := (by omega); have hn0 : (0 : Int) ≤ (n : Int) := (by omega); have HO3 := Lib.hid hown3; clear hown3 hg3 hat3 hown2))
  go_ret
  refine ⟨g3, c3, ?_, ?_, hB3⟩
  · rfl
  · unfold Lent
    rw [HL.out]
    exact HO3.out
set_option maxRecDepth 100000 in
set_option maxHeartbeats 1000000 in
theorem kept_true (w : World) (B g cap : Nat) (a : Option Addr) (n c : Nat) (fs : List Tk.Fd) (h : FRow w a n fs) (hL : Lent w B g cap fs) (hn : n ≤ 1099511627776) :
    Calls Try.prog 22 #[.slice (some ⟨g, 0, none⟩) n cap, .slice a n c] w fun e w' => e = .returned (.bool true) ∧ Below w.heap.size w w' := by
  have hl := h.1
  obtain ⟨_, hgl, hcap, hcm⟩ := hL.cap
  have hrow : FRow w (some ⟨g, 0, none⟩) n fs := by
    have := hL.own
    rw [hl] at this
    exact FRow.own this
  obtain ⟨_, hA, _, _, hcs⟩ := own_fields hL (by omega)
  injection hA with hA
  injection hA with hA
  subst hA
  obtain ⟨hm0, hm1⟩ := hcs fs.length (by omega)
  have hmk : (fs ++ [markF]).getD fs.length Tk.nil = markF := by rw [List.getD_eq_getElem?_getD, List.getElem?_append_right (Nat.le_refl _), Nat.sub_self]; rfl
  rw [hmk, hl] at hm0 hm1
  have hm0' : w.cell? ⟨g, n * 2, none⟩ = some (.string ⟨#[45, 109, 97, 114, 107]⟩) := hm0
  have hm1' : w.cell? ⟨g, n * 2 + 1, none⟩ = some (.string ⟨#[]⟩) := hm1
  have HS := Lib.hid (fun (w2 : World) (hb : Below w.heap.size w w2) => same_true w2 (some ⟨g, 0, none⟩) a n cap c fs (hrow.keep hb) (h.keep hb) hn)
  have hsz : g < w.heap.size := hgl
  have hc1 : ((n + 1 : Nat) : Int) ≤ (cap : Int) := by omega
  have hc0 : (0 : Int) ≤ ((n + 1 : Nat) : Int) := by omega
  have hwr : IntKind.i64.wrap ((n : Int) + 1) = ((n + 1 : Nat) : Int) := by rw [IntWalk.i64_in _ (by omega)]; omega
  have hnlt : (n : Int) < ((n + 1 : Nat) : Int) := by omega
  have hn0 : (0 : Int) ≤ (n : Int) := by omega
  have hb0 : Below w.heap.size w w.drew := ⟨rfl, rfl, rfl, Nat.le_refl _, fun _ _ => rfl⟩
  clear hm0 hm1 hcs hmk h hL hrow hl hcap
  generalize hq : n + 1 = q at *
  have HQ := Lib.hid hq
  clear hq
  go_enter Try.func22, Try.ntmps22
  go_wp2
  go_region_held3 (fun w' => w'.cell? ⟨g, n * 2, none⟩ = some (.string ⟨#[45, 109, 97, 114, 107]⟩) ∧ w'.cell? ⟨g, n * 2 + 1, none⟩ = some (.string ⟨#[]⟩)) (first | exact ⟨hm0', hm1'⟩ | exact ⟨(hb3.cell (p := ⟨g, n * 2, none⟩) hsz).trans hm0', (hb3.cell (p := ⟨g, n * 2 + 1, none⟩) hsz).trans hm1'⟩ | exact ⟨(hb4.cell (p := ⟨g, n * 2, none⟩) hsz).trans hm0', (hb4.cell (p := ⟨g, n * 2 + 1, none⟩) hsz).trans hm1'⟩) (first | (go_at_call 24; refine (HS.out _ hb0).mono ?_; rintro e w3 ⟨rfl, hb3d⟩; have hb3 : Below w.heap.size w w3 := below_undrew hb3d) | (go_at_call 26; refine (lfield_any _ _ _).mono ?_; rintro e w4 ⟨rfl, hb4d⟩; have hb4 : Below w.heap.size w w4 := hb3.trans (hb4d.mono hb3.size)))
  all_goals
    go_wp2
    go_ret
    exact ⟨rfl, hb4⟩
end Go.Proofs.Ytmjibpjnhehnnaa
