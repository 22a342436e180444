/- The reference's table, walked: a list of fields in a row of its own. -/
import Derived.Test.YtmjibpjnhehnnaaTg
import Derived.Deep.AppendLies
namespace Go.Proofs.Ytmjibpjnhehnnaa
open Go.RowKit
attribute [local go_sem ↓] Go.wp_at_zero Go.wp_at_succ

/-- Fields as cells. -/
abbrev fcells (l : List Tk.Fd) : List Value := l.flatMap encF
theorem fcells_length (l : List Tk.Fd) : (fcells l).length = l.length * 2 := by
  induction l with
  | nil => rfl
  | cons f l ih =>
    have e : fcells (f :: l) = Value.string f.1 :: Value.string f.2 :: fcells l := rfl
    rw [e, List.length_cons, List.length_cons, List.length_cons, ih]
    omega
theorem fcells_one (l : List Tk.Fd) : ∀ y ∈ fcells l, y.oneCell' = true := by
  intro y hy
  obtain ⟨f, _, hy⟩ := List.mem_flatMap.1 hy
  simp [encF] at hy
  rcases hy with rfl | rfl <;> rfl
theorem fcells_take (l : List Tk.Fd) (k : Nat) : (fcells l).take (k * 2) = fcells (l.take k) := by
  induction l generalizing k with
  | nil => simp [fcells]
  | cons f l ih =>
    cases k with
    | zero => simp [fcells]
    | succ k =>
      have e : fcells (f :: l) = Value.string f.1 :: Value.string f.2 :: fcells l := rfl
      rw [e, show (k + 1) * 2 = k * 2 + 1 + 1 from by omega, List.take_succ_cons, List.take_succ_cons, ih k]
      rfl
/-- A row of fields of the call's own: its cells. -/
theorem own_fields {w : World} {base n c : Nat} {A : Option Addr} {l : List Tk.Fd} (h : w.ownsRow base 57 2 (.slice A n c) n (fcells l)) (hn : 0 < n) :
    ∃ g, A = some ⟨g, 0, none⟩ ∧ base ≤ g ∧ g < w.heap.size ∧ ∀ k, k < n → w.cell? ⟨g, k * 2, none⟩ = some (.string (l.getD k Tk.nil).1) ∧ w.cell? ⟨g, k * 2 + 1, none⟩ = some (.string (l.getD k Tk.nil).2) := by
  have hl := h.1
  rw [fcells_length] at hl
  obtain ⟨g, cap, hv, _, _⟩ := h.form hn
  injection hv with hA
  have hlt := h.lt g (by rw [hA]; rfl)
  refine ⟨g, hA, hlt.1, hlt.2, fun k hk => ?_⟩
  have hc := h.cells (g := g) (by rw [hA]; rfl)
  obtain ⟨h0, h1⟩ := flat_at l k (by omega)
  have e0 := hc _ _ h0
  have e1 := hc _ _ h1
  simp only [Addr.add_mid, Nat.zero_add] at e0 e1
  exact ⟨e0, e1⟩

/-- The reference's table: block bx, its room m, its fields l in the row g. -/
def RTab (w : World) (bx : Nat) (g : Option Nat) (m : Nat) (l : List Tk.Fd) : Prop :=
  ∃ v, v.ownBlock = g ∧ w.heap[bx]? = some (.cells #[.int .i64 (m : Int), v] 83 (0, 0)) ∧ w.ownsRow (bx + 1) 57 2 v l.length (fcells l)
theorem RTab.lt {w : World} {bx m : Nat} {g : Option Nat} {l : List Tk.Fd} (h : RTab w bx g m l) : bx < w.heap.size ∧ ∀ k, g = some k → k < w.heap.size ∧ bx < k := by
  obtain ⟨v, hv, hb, hr⟩ := h
  exact ⟨heap_lt hb, fun k hk => by have := hr.lt k (by rw [hv]; exact hk); omega⟩
theorem own_mono {w : World} {base base' n : Nat} {e : TypeId} {size : Nat} {v : Value} {xs : List Value} (h : w.ownsRow base e size v n xs) (hb : base' ≤ base) : w.ownsRow base' e size v n xs := by
  refine ⟨h.1, ?_⟩
  rcases h.2 with h2 | ⟨g, cap, cur, hv, hg, r⟩
  · exact .inl h2
  · exact .inr ⟨g, cap, cur, hv, Nat.le_trans hb hg, r⟩
theorem own_only {S : Nat → Prop} {w w' : World} {base n size : Nat} {e : TypeId} {v : Value} {xs : List Value} (h : w.ownsRow base e size v n xs) (ho : Only S w w') (hS : ∀ k, v.ownBlock = some k → ¬ S k) : w'.ownsRow base e size v n xs := by
  refine ⟨h.1, ?_⟩
  rcases h.2 with h2 | ⟨g, cap, cur, rfl, hg, hgg, r⟩
  · exact .inl h2
  · exact .inr ⟨g, cap, cur, rfl, hg, ho.block' hgg (hS g rfl), r⟩
theorem RTab.only {S : Nat → Prop} {w w' : World} {bx m : Nat} {g : Option Nat} {l : List Tk.Fd} (h : RTab w bx g m l) (ho : Only S w w') (hb : ¬ S bx) (hg : ∀ k, g = some k → ¬ S k) : RTab w' bx g m l := by
  obtain ⟨v, hv, hbb, hr⟩ := h
  exact ⟨v, hv, ho.block' hbb hb, own_only hr ho (by rw [hv]; exact hg)⟩
theorem RTab.below {w w' : World} {bx m : Nat} {g : Option Nat} {l : List Tk.Fd} (h : RTab w bx g m l) (hb : Below w.heap.size w w') : RTab w' bx g m l := h.only (Only.of_below (fun _ => False) hb) id (fun _ _ h => h)

set_option maxRecDepth 100000 in
theorem rnew_bad (w : World) (n : Int) (h : n < 0 ∨ 65536 < n) : Calls Try.prog 35 #[.int .i64 n] w fun e w' => e = .returned (.tuple #[.pointer none, .int .i64 5]) ∧ w = w' := by
  by_cases h1 : n < 0
  · go_enter Try.func35, Try.ntmps35
    go_wp2
    go_ret2
    exact ⟨rfl, rfl⟩
  · have h2 : 65536 < n := by omega
    go_enter Try.func35, Try.ntmps35
    go_wp2
    go_ret2
    exact ⟨rfl, rfl⟩
set_option maxRecDepth 100000 in
theorem rnew_good (w : World) (n : Nat) (h : n ≤ 65536) : Calls Try.prog 35 #[.int .i64 (n : Int)] w fun e w' => e = .returned (.tuple #[.pointer (some ⟨w.heap.size, 0, none⟩), .int .i64 0]) ∧ Below w.heap.size w w' ∧ w'.heap.size = w.heap.size + 1 ∧ RTab w' w.heap.size none n [] := by
  have h1 : (n : Int) ≤ 65536 := by omega
  clear h
  go_enter Try.func35, Try.ntmps35
  go_wp2
  go_ret2
  exact ⟨rfl, (Below.refl _ _).alloc (Nat.le_refl _) _, by simp, .slice none 0 0, rfl, heap_alloc_new w _, World.ownsRow_nil _ _ _ _⟩
set_option maxRecDepth 100000 in
theorem rweight_any (w : World) (x y : ByteArray) (hf : Fits (x, y)) : Calls Try.prog 29 #[.agg #[.string x, .string y]] w fun e w' => e = .returned (.int .i64 (Tk.wt (x, y) : Nat)) ∧ Below w.heap.size w w' := by
  have hB : Below w.heap.size w (w.alloc (.cells #[.string x, .string y] 57)) := (Below.refl _ _).alloc (Nat.le_refl _) _
  obtain ⟨h1, h2⟩ := hf
  simp only at h1 h2
  have hs1 : IntKind.i64.wrap (32 + (x.size : Int)) = ((32 + x.size : Nat) : Int) := by rw [IntWalk.i64_in _ (by omega)]; omega
  have hs2 : IntKind.i64.wrap (((32 + x.size : Nat) : Int) + (y.size : Int)) = (Tk.wt (x, y) : Int) := by rw [IntWalk.i64_in _ (by omega)]; unfold Tk.wt; simp only; omega
  generalize Tk.wt (x, y) = W at *
  generalize 32 + x.size = q at *
  clear h1 h2
  go_enter Try.func29, Try.ntmps29
  go_wp2
  go_ret
  exact ⟨rfl, hB⟩
theorem sum_take (l : List Tk.Fd) (k : Nat) (h : k < l.length) : Tk.sum (l.take (k + 1)) = Tk.sum (l.take k) + Tk.wt (l.getD k Tk.nil) := by
  rw [List.take_succ_eq_append_getElem h, Tk.sum_append, Tk.sum_cons, Tk.sum_nil, Nat.add_zero, List.getD_eq_getElem?_getD, List.getElem?_eq_getElem h]
  rfl
theorem sum_take_le (l : List Tk.Fd) (k : Nat) : Tk.sum (l.take k) ≤ Tk.sum l := by
  conv => rhs; rw [← List.take_append_drop k l]
  rw [Tk.sum_append]
  omega
theorem getD_mem {l : List Tk.Fd} {k : Nat} (h : k < l.length) : l.getD k Tk.nil ∈ l := by
  rw [List.getD_eq_getElem?_getD, List.getElem?_eq_getElem h]
  exact List.getElem_mem h
set_option maxRecDepth 100000 in
set_option maxHeartbeats 1000000 in
theorem rsize_any (w : World) (bx m : Nat) (g : Option Nat) (l : List Tk.Fd) (h : RTab w bx g m l) (hs : Tk.sum l ≤ 65536) :
    Calls Try.prog 40 #[.pointer (some ⟨bx, 0, none⟩)] w fun e w' => e = .returned (.int .i64 (Tk.sum l : Nat)) ∧ Below w.heap.size w w' := by
  have hcnt := count_le hs
  have hsn := Tk.sum_nil
  have HST := Lib.hid (sum_take l)
  have HSL := Lib.hid (sum_take_le l)
  have HFT := Lib.hid (fun k (hk : k < l.length) => fits_of_sum hs (Nat.le_refl _) (getD_mem hk))
  go_enter Try.func40, Try.ntmps40
  go_wp2
  go_loopw [3, 4] (fun n i wr => ∃ k : Nat, k ≤ l.length ∧ i = .int .i64 (k : Int) ∧ n = .int .i64 (Tk.sum (l.take k) : Nat) ∧ Below w.heap.size w wr) (fun _ i _ => l.length - (intOf i).toNat)
  case atStart => exact ⟨0, Nat.zero_le _, rfl, rfl, Below.refl _ _⟩
  case round =>
    clear hsn
    obtain ⟨k, hk, rfl, rfl, hB⟩ := hrel
    obtain ⟨v, hv, hb, hr⟩ := h.below hB
    obtain ⟨A, c, rfl⟩ := own_slice hr
    have hc1 : wr.cell? ⟨bx, 1, none⟩ = some (.slice A l.length c) := cell_of_blk hb 1 _ rfl
    by_cases hlt : k < l.length
    · obtain ⟨gg, rfl, _, _, hcc⟩ := own_fields hr (by omega)
      obtain ⟨hq0, hq1⟩ := hcc k hlt
      have hst := HST.out k hlt
      have hsl := HSL.out k
      have hft := HFT.out k hlt
      have hsl1 := HSL.out (k + 1)
      clear hcc
      generalize l.getD k Tk.nil = fd at *
      obtain ⟨x, y⟩ := fd
      have hkI : (k : Int) < (l.length : Int) := by omega
      have hwx : Tk.wt (x, y) ≤ 65536 := by omega
      have HS := Lib.hid hst
      clear hst hb hr hv hsl1
      simp only at hq0 hq1
      generalize Tk.sum (l.take k) = s at *
      generalize hW : Tk.wt (x, y) = W at *
      have hsum : IntKind.i64.wrap ((s : Int) + (W : Int)) = ((s + W : Nat) : Int) := by rw [IntWalk.i64_in _ (by omega)]; omega
      have HW := Lib.hid (fun w => rweight_any w x y hft)
      rw [hW] at HW
      clear hW
      go_wp2_with fail
      refine (HW.out _).mono ?_
      rintro e w2 ⟨rfl, hb2⟩
      have hB2 : Below w.heap.size w w2 := hB.trans (hb2.mono hB.size)
      generalize s + W = sw at *
      go_wp2
      go_roundw
      case measure => simp [intOf] <;> omega
      case rel => exact ⟨k + 1, by omega, by go_num, by rw [HS.out], hB2⟩
    · obtain rfl : k = l.length := by omega
      rw [List.take_length]
      clear hb hr hv
      go_wp2
      go_ret
      exact ⟨rfl, hB⟩
/-- How many fields it has. -/
def held (bx : Nat) (w : World) : Nat := match w.cell? ⟨bx, 1, none⟩ with
  | some (.slice _ n _) => n
  | _ => 0
theorem RTab.held {w : World} {bx m : Nat} {g : Option Nat} {l : List Tk.Fd} (h : RTab w bx g m l) : held bx w = l.length := by
  obtain ⟨v, hv, hb, hr⟩ := h
  obtain ⟨A, c, rfl⟩ := own_slice hr
  unfold Go.Proofs.Ytmjibpjnhehnnaa.held
  rw [cell_of_blk hb 1 (.slice A l.length c) rfl]
def RShrunk (w : World) (bx : Nat) (g : Option Nat) (m : Nat) (l : List Tk.Fd) (w' : World) : Prop := RTab w' bx g m l ∧ Only (· = bx) w w'
set_option maxRecDepth 100000 in
set_option maxHeartbeats 1000000 in
theorem rshrink_any (w : World) (bx m most : Nat) (g : Option Nat) (l : List Tk.Fd) (h : RTab w bx g m l) (hs : Tk.sum l ≤ 65536) :
    Calls Try.prog 56 #[.pointer (some ⟨bx, 0, none⟩), .int .i64 (most : Int)] w fun e w' => e = .returned (.tuple #[]) ∧ RShrunk w bx g m (Tk.shr most l) w' := by
  have hgl := h.lt
  go_enter Try.func56, Try.ntmps56
  go_wp2
  go_loopw [] (fun wr => ∃ l1 : List Tk.Fd, Tk.shr most l1 = Tk.shr most l ∧ RTab wr bx g m l1 ∧ Only (· = bx) w wr ∧ Tk.sum l1 ≤ 65536) (fun wr => held bx wr)
  case atStart => exact ⟨l, rfl, h, Only.refl _ _, hs⟩
  case round =>
    obtain ⟨l1, hl1, hT, hO, hs1⟩ := hrel
    have hh := hT.held
    by_cases hle : Tk.sum l1 ≤ most
    · have hleI : ¬ (most : Int) < (Tk.sum l1 : Int) := by omega
      rw [Tk.shr_le hle] at hl1
      have HL1 := Lib.hid hl1
      clear hle hl1 hh
      go_wp2_with fail
      refine (rsize_any _ bx m g l1 hT hs1).mono ?_
      rintro e w2 ⟨rfl, hb2⟩
      have hT2 := hT.below hb2
      have hO2 : Only (· = bx) w w2 := hO.trans (Only.of_below _ hb2)
      generalize Tk.sum l1 = s1 at *
      go_wp2
      go_end0
      rw [← HL1.out]
      exact ⟨rfl, hT2, hO2⟩
    · have hleI : (most : Int) < (Tk.sum l1 : Int) := by omega
      have hne : l1 ≠ [] := by intro e; subst e; exact hle (Nat.zero_le _)
      have hpos := List.length_pos_iff.2 hne
      have hcnt := count_le hs1
      rw [Tk.shr_gt hle] at hl1
      have hsd := Tk.sum_dropLast l1 hne
      have hsum2 : Tk.sum l1.dropLast ≤ 65536 := by omega
      have hdl : l1.dropLast = l1.take (l1.length - 1) := List.dropLast_eq_take
      have HDL := Lib.hid hdl
      have HL1 := Lib.hid hl1
      have HH := Lib.hid hh
      have HRS := Lib.hid (fun w h => rsize_any w bx m g l1 h hs1)
      clear hl1 hsd hne hle hdl hh
      generalize Tk.sum l1 = s1 at *
      go_wp2_with fail
      refine (HRS.out _ hT).mono ?_
      rintro e w2 ⟨rfl, hb2⟩
      have hT2 := hT.below hb2
      have hO2 : Only (· = bx) w w2 := hO.trans (Only.of_below _ hb2)
      clear hT hO
      obtain ⟨v, hv, hb, hr⟩ := hT2
      obtain ⟨A, c, rfl⟩ := own_slice hr
      have hc1 : w2.cell? ⟨bx, 1, none⟩ = some (.slice A l1.length c) := cell_of_blk hb 1 _ rfl
      have hf1 : w2.frozen? ⟨bx, 1, none⟩ = false := frozen_of_row w2 bx 1 _ _ hb
      have hw1 : IntKind.i64.wrap ((l1.length : Int) - 1) = ((l1.length - 1 : Nat) : Int) := by rw [IntWalk.i64_in _ (by omega)]; omega
      have hlc : l1.length ≤ c := by
        rcases hr.2 with ⟨he, hn0⟩ | ⟨g', cap, cur, hv', _, _, hcap, _⟩
        · omega
        · injection hv' with _ _ hc'
          omega
      obtain ⟨gg, rfl, hgg, _, _⟩ := own_fields hr hpos
      have hr2 : w2.ownsRow (bx + 1) 57 2 (.slice (some ⟨gg, 0, none⟩) (l1.length - 1) c) (l1.length - 1) (fcells l1.dropLast) := by
        rw [HDL.out, ← fcells_take]
        refine ⟨by rw [List.length_take, fcells_length]; omega, ?_⟩
        rcases hr.2 with ⟨he, _⟩ | ⟨g', cap, cur, hv', hg', hh', hcap, hcm, hcs, hct⟩
        · cases he
        · injection hv' with e1 _ e3
          injection e1 with e1
          injection e1 with e1
          subst e1; subst e3
          refine .inr ⟨gg, c, cur, rfl, hg', hh', by omega, hcm, hcs, ?_⟩
          rw [← hct, List.take_take, Nat.min_eq_left (by omega)]
      have hdll : l1.dropLast.length = l1.length - 1 := List.length_dropLast
      have HDLL := Lib.hid hdll
      have hnI0 : (0 : Int) ≤ ((l1.length - 1 : Nat) : Int) := by omega
      have hnI : ((l1.length - 1 : Nat) : Int) ≤ (l1.length : Int) := by omega
      have hnI2 : ((l1.length - 1 : Nat) : Int) ≤ (c : Int) := by omega
      have HB := Lib.hid hb
      have HV := Lib.hid hv
      clear hr hb hv hdll
      generalize hn1 : l1.length - 1 = n1 at *
      have HN1 := Lib.hid hn1
      clear hn1
      go_wp2
      go_still_tail 14, (by kernel_rfl)
      have hbd : w2.drew.heap[bx]? = some (.cells #[.int .i64 (m : Int), .slice (some ⟨gg, 0, none⟩) l1.length c] 83 (0, 0)) := HB.out
      have hrd := hr2.drew
      have hOd : Only (· = bx) w w2.drew := hO2.drew
      have hcd : w2.drew.cell? ⟨bx, 1, none⟩ = some (.slice (some ⟨gg, 0, none⟩) l1.length c) := hc1
      have hfd : w2.drew.frozen? ⟨bx, 1, none⟩ = false := hf1
      change wpList _ _ _ _ _ w2.drew
      generalize w2.drew = w3 at *
      clear hc1 hf1 hr2 hO2 HB
      have hb4 : (w3.setCell ⟨bx, 1, none⟩ (.slice (some ⟨gg, 0, none⟩) n1 c)).heap[bx]? = some (.cells #[.int .i64 (m : Int), .slice (some ⟨gg, 0, none⟩) n1 c] 83 (0, 0)) := (heap_setCell_same _ _ _ _ _ _ hbd).trans rfl
      have hT4 : RTab (w3.setCell ⟨bx, 1, none⟩ (.slice (some ⟨gg, 0, none⟩) n1 c)) bx g m l1.dropLast := by
        refine ⟨.slice (some ⟨gg, 0, none⟩) n1 c, HV.out, hb4, ?_⟩
        rw [HDLL.out]
        exact own_only hrd (S := fun k => k = bx) (Only.setCell (S := fun k => k = bx) (p := ⟨bx, 1, none⟩) (Only.refl _ w3) (.inr rfl) _) (fun k hk => by have hk2 : some gg = some k := hk; injection hk2 with hk2; show ¬ k = bx; omega)
      have hO4 : Only (· = bx) w (w3.setCell ⟨bx, 1, none⟩ (.slice (some ⟨gg, 0, none⟩) n1 c)) := hOd.setCell (.inr rfl) _
      clear hbd hrd hOd hb4
      go_wp2
      go_roundw
      case measure =>
        have := HH.out
        have := HN1.out
        rw [hT4.held, HDLL.out]
        omega
      case rel => exact ⟨l1.dropLast, HL1.out, hT4, hO4, hsum2⟩
/-- What laying in leaves. -/
def RAdded (w : World) (bx m : Nat) (l : List Tk.Fd) (w' : World) : Prop := ∃ g, RTab w' bx g m l ∧ Only (· = bx) w w' ∧ ∀ k, g = some k → w.heap.size ≤ k
theorem info_fd : (Try.prog.info? 57).map (fun i => (i.zero, i.size, i.bytes)) = some (some (.agg #[.string ⟨#[]⟩, .string ⟨#[]⟩]), 2, 32) := by kernel_rfl
section
variable {ops : Array Oper} {rest : List Oper} {o : Oper} {a : Act} {K : Act → World → Prop} {Q : Exit → Act → World → Prop}
/-- append(l, u..) of fields: l a row of the call's own, u another row of the call's own or nil. -/
theorem wp_fields {W : World} (base base' : Nat) (s x : Operand)
    (ho : o.op = .call { callee := .builtin .append, args := #[s, x], argTypes := #[28, 28] })
    (v u : Value) (n m : Nat) (l1 l2 : List Tk.Fd) (hs : a.eval s = v) (hx : a.eval x = u) (HO : W.ownsRow base 57 2 v n (fcells l1)) (HU : W.ownsRow base' 57 2 u m (fcells l2))
    (hbase : base ≤ W.heap.size) (hm : n + m ≤ 4398046511104)
    (h : ∀ v1 w1, w1.ownsRow base 57 2 v1 (n + m) (fcells (l1 ++ l2)) → W.grownBy w1 v.ownBlock → (v1.ownBlock = v.ownBlock ∨ v1.ownBlock = some W.heap.size) → K (a.put o.dst v1) w1) :
    Oper.wp Try.prog o a W K Q := by
  obtain ⟨i0, hi, hz0, hz1, hz2⟩ := info_open info_fd
  have happ : fcells (l1 ++ l2) = fcells l1 ++ fcells l2 := List.flatMap_append ..
  rcases HU.2 with ⟨rfl, h0⟩ | ⟨g, cap, cur, rfl, _⟩
  · subst h0
    have hl2 : l2 = [] := by
      have := HU.1
      rw [fcells_length] at this
      exact List.eq_nil_of_length_eq_zero (by omega)
    subst hl2
    have hrun := run_append_owned_none (P := Try.prog) (w := W) base 28 o.type 57 i0 2 Try.underlying28 hi v n (fcells l1) HO
    unfold Oper.wp
    simp [execOp, ho, resolve, invoke, builtin, hs, hx, hrun, Result.andThen]
    exact h v W (by simpa using HO) ⟨rfl, rfl, rfl, Nat.le_refl _, fun _ _ _ => rfl⟩ (.inl rfl)
  · obtain ⟨v', w', hr, h2, h3, _, h5⟩ := run_append_own_at (P := Try.prog) W base 28 o.type 57 i0 _ 2 32 Try.underlying28 hi hz0 hz1 hz2 rfl (by omega) v n (fcells l1) HO ⟨g, 0, none⟩ m cap (fcells l2) HU.1 (HU.cells (g := g) rfl) (fcells_one l2) (by unfold maxLen; omega) (by omega) hbase
    unfold Oper.wp execOp
    simp only [ho, resolve, invoke, builtin, Sem.run_bind, Sem.run_pure, Result.andThen_ok, List.map_toArray, List.map_cons, List.map_nil, hs, hx, hr]
    exact h v' w' (by rw [happ]; exact h2) h3 h5
theorem wpList_fields {rest : List Oper} {W : World} (base base' : Nat) (hgd : o.guard = none) (s x : Operand)
    (ho : o.op = .call { callee := .builtin .append, args := #[s, x], argTypes := #[28, 28] })
    (v u : Value) (n m : Nat) (l1 l2 : List Tk.Fd) (hs : a.eval s = v) (hx : a.eval x = u) (HO : W.ownsRow base 57 2 v n (fcells l1)) (HU : W.ownsRow base' 57 2 u m (fcells l2))
    (hbase : base ≤ W.heap.size) (hm : n + m ≤ 4398046511104)
    (h : ∀ v1 w1, w1.ownsRow base 57 2 v1 (n + m) (fcells (l1 ++ l2)) → W.grownBy w1 v.ownBlock → (v1.ownBlock = v.ownBlock ∨ v1.ownBlock = some W.heap.size) → wpList Try.prog ops Q rest (a.put o.dst v1) w1) :
    wpList Try.prog ops Q (o :: rest) a W :=
  wpList_plain hgd fun _ hK => wp_fields base base' s x ho v u n m l1 l2 hs hx HO HU hbase hm fun v1 w1 h1 h2 h3 => hK _ _ (h v1 w1 h1 h2 h3)
end
set_option maxRecDepth 100000 in
set_option maxHeartbeats 1000000 in
theorem radd_any (w : World) (bx m : Nat) (g : Option Nat) (l : List Tk.Fd) (x y : ByteArray) (h : RTab w bx g m l) (hs : Tk.sum l ≤ 65536) (hm : m ≤ 65536) (hf : Fits (x, y)) :
    Calls Try.prog 60 #[.pointer (some ⟨bx, 0, none⟩), .agg #[.string x, .string y]] w fun e w' => e = .returned (.tuple #[]) ∧ RAdded w bx m (Tk.add m (x, y) l) w' := by
  have hgl := h.lt
  have hW : Tk.wt (x, y) ≤ 281474976710688 := by obtain ⟨h1, h2⟩ := hf; unfold Tk.wt; simp only at *; omega
  have HWT := Lib.hid (fun w => rweight_any w x y hf)
  go_enter Try.func60, Try.ntmps60
  go_upto_region 1 with fail
  have hB0 : Below w.heap.size w (w.alloc (.cells #[.string x, .string y] 57)) := (Below.refl _ _).alloc (Nat.le_refl _) _
  have h1 := h.below hB0
  have hbox := heap_alloc_new w (.cells #[.string x, .string y] 57)
  generalize w.alloc (.cells #[.string x, .string y] 57) = w1 at *
  generalize hB : w.heap.size = B at *
  have HBE := Lib.hid hB
  have HBOX := Lib.hid hbox
  clear h hB hbox
  have hlt1 := heap_lt HBOX.out
  generalize hWW : Tk.wt (x, y) = W at *
  have HWW := Lib.hid hWW
  clear hWW
  have hb0 : w1.cell? ⟨B, 0, none⟩ = some (.string x) := cell_of_blk HBOX.out 0 _ rfl
  have hb1 : w1.cell? ⟨B, 1, none⟩ = some (.string y) := cell_of_blk HBOX.out 1 _ rfl
  have hm0 : w1.cell? ⟨bx, 0, none⟩ = some (.int .i64 (m : Int)) := by obtain ⟨v, _, hb, _⟩ := h1; exact cell_of_blk hb 0 _ rfl
  go_region_held3 (fun w' => w'.cell? ⟨B, 0, none⟩ = some (.string x) ∧ w'.cell? ⟨B, 1, none⟩ = some (.string y) ∧ w'.cell? ⟨bx, 0, none⟩ = some (.int .i64 (m : Int))) (first | exact ⟨hb0, hb1, hm0⟩ | exact ⟨hb02, hb12, hm02⟩) (first | (go_at_call 29; refine (HWT.out _).mono ?_; rintro e w2 ⟨rfl, hb2d⟩; have hb2 := below_undrew hb2d; have hT2 := h1.below hb2; have hbx2 : w2.heap[B]? = _ := (hb2.block B hlt1).trans HBOX.out; have hb02 : w2.cell? ⟨B, 0, none⟩ = some (.string x) := cell_of_blk hbx2 0 _ rfl; have hb12 : w2.cell? ⟨B, 1, none⟩ = some (.string y) := cell_of_blk hbx2 1 _ rfl; have hm02 : w2.cell? ⟨bx, 0, none⟩ = some (.int .i64 (m : Int)) := by obtain ⟨v, _, hb, _⟩ := hT2; exact cell_of_blk hb 0 _ rfl))
  have hO2 : Only (· = bx) w w2 := Only.of_below _ (by rw [HBE.out]; exact hB0.trans (hb2.mono (by show B ≤ w1.heap.size; omega)))
  have hlt2 := heap_lt hbx2
  have HBX2 := Lib.hid hbx2
  clear hbx2 h1 hB0 hb2 hb2d hb0 hb1 hm0
  by_cases hle : W ≤ m
  · have hleI : decide (m < W) = false := decide_eq_false (by omega)
    have hleI2 : ¬ (m : Int) < (W : Int) := by omega
    have hadd : Tk.add m (x, y) l = (x, y) :: Tk.shr (m - W) l := by unfold Tk.add; rw [HWW.out, if_pos hle]
    have hsm := Tk.shr_sum (m - W) l
    have HADD := Lib.hid hadd
    have hsub : IntKind.i64.wrap ((m : Int) - (W : Int)) = ((m - W : Nat) : Int) := by rw [IntWalk.i64_in _ (by omega)]; omega
    have HRS := Lib.hid (fun w h => rshrink_any w bx m (m - W) g l h hs)
    clear hadd hle
    have hdm : m - W ≤ 65536 := by omega
    generalize Tk.shr (m - W) l = l1 at *
    generalize m - W = d at *
    have hcnt := count_le hsm
    go_upto_region 3 with fail
    go_region_held3 (fun w' => w'.cell? ⟨B, 0, none⟩ = some (.string x) ∧ w'.cell? ⟨B, 1, none⟩ = some (.string y) ∧ w'.cell? ⟨bx, 0, none⟩ = some (.int .i64 (m : Int))) (first | exact ⟨hb02, hb12, hm02⟩ | exact ⟨hb03, hb13, hm03⟩ | exact ⟨hb04, hb14, hm04⟩) (first | (go_at_call 29; refine (HWT.out _).mono ?_; rintro e w3 ⟨rfl, hb3d⟩; have hb3 := below_undrew hb3d; have hT3 := hT2.below hb3; have hbx3 : w3.heap[B]? = _ := (hb3.block B hlt2).trans HBX2.out; have hb03 : w3.cell? ⟨B, 0, none⟩ = some (.string x) := cell_of_blk hbx3 0 _ rfl; have hb13 : w3.cell? ⟨B, 1, none⟩ = some (.string y) := cell_of_blk hbx3 1 _ rfl; have hm03 : w3.cell? ⟨bx, 0, none⟩ = some (.int .i64 (m : Int)) := by obtain ⟨v, _, hb, _⟩ := hT3; exact cell_of_blk hb 0 _ rfl) | (go_at_call 56; refine (HRS.out _ (by exact hT3)).mono ?_; rintro e w4 ⟨rfl, hT4, hO4⟩; have hbx4 : w4.heap[B]? = _ := hO4.block' hbx3 (by show ¬ B = bx; omega); have hb04 : w4.cell? ⟨B, 0, none⟩ = some (.string x) := cell_of_blk hbx4 0 _ rfl; have hb14 : w4.cell? ⟨B, 1, none⟩ = some (.string y) := cell_of_blk hbx4 1 _ rfl; have hm04 : w4.cell? ⟨bx, 0, none⟩ = some (.int .i64 (m : Int)) := by obtain ⟨v, _, hb, _⟩ := hT4; exact cell_of_blk hb 0 _ rfl))
    have hO3 : Only (· = bx) w w4 := (hO2.trans (Only.of_below _ hb3)).trans hO4
    clear hT2 hT3 hO2 hb3 hb3d hb02 hb12 hm02 hb03 hb13 hm03 hm04 hbx3 hO4
    go_upto_region 5 with fail
    have hB5 : Below w4.heap.size w4 (w4.alloc (.cells #[.string x, .string y] 57)) := (Below.refl _ _).alloc (Nat.le_refl _) _
    have hT5 := hT4.below hB5
    have hO5 : Only (· = bx) w (w4.alloc (.cells #[.string x, .string y] 57)) := hO3.alloc _
    have hown5 : (w4.alloc (.cells #[.string x, .string y] 57)).ownsRow w4.heap.size 57 2 (.slice (some ⟨w4.heap.size, 0, none⟩) 1 1) 1 (fcells [(x, y)]) := World.ownsRow_lit (base := w4.heap.size) (e := 57) (size := 2) w4 #[.string x, .string y] 1 (Nat.le_refl _) (by unfold maxLen; omega) rfl
    have hsz5 := hO3.size
    have hsz6 := hB5.size
    have hbx4 := hT4.lt.1
    clear hT4 hO3 hB5 hb04 hb14
    generalize w4.alloc (.cells #[.string x, .string y] 57) = w5 at *
    generalize w4.heap.size = B4 at *
    obtain ⟨v, hv, hb, hr⟩ := hT5
    obtain ⟨A, c, rfl⟩ := own_slice hr
    have hc1 : w5.cell? ⟨bx, 1, none⟩ = some (.slice A l1.length c) := cell_of_blk hb 1 _ rfl
    have hf1 : w5.frozen? ⟨bx, 1, none⟩ = false := frozen_of_row w5 bx 1 _ _ hb
    have HB := Lib.hid hb
    have HV := Lib.hid hv
    clear hb hv
    go_wp2_with (at_builtin; go_must (refine wpList_fields B4 (bx + 1) (by rfl) _ _ (by rfl) (.slice (some ⟨B4, 0, none⟩) 1 1) (.slice A l1.length c) 1 l1.length [(x, y)] l1 (by rfl) (by rfl) (by exact hown5) (by exact hr) (by exact hsz6) (by omega) ?_; intro v6 w6 hown6 hg6 hat6; have hb6 : w6.heap[bx]? = _ := (hg6.block bx (heap_lt HB.out) (by intro e; have e2 : some bx = some B4 := e; injection e2 with e2; omega)).trans HB.out; have hc6 : w6.cell? ⟨bx, 1, none⟩ = some (.slice A l1.length c) := cell_of_blk hb6 1 _ rfl; have hf6 : w6.frozen? ⟨bx, 1, none⟩ = false := frozen_of_row w6 bx 1 _ _ hb6; have HB6 := Lib.hid hb6; clear hb6; obtain ⟨A6, c6, rfl⟩ := own_slice hown6))
    go_end0
    refine ⟨rfl, (Value.slice A6 (1 + l1.length) c6).ownBlock, ?_, ?_, ?_⟩
    · rw [HADD.out]
      refine ⟨_, rfl, (heap_setCell_same _ _ _ _ _ _ HB6.out).trans rfl, ?_⟩
      rw [List.length_cons, Nat.add_comm l1.length 1]
      refine own_mono (own_only hown6 (S := fun k => k = bx) (Only.setCell (S := fun k => k = bx) (p := ⟨bx, 1, none⟩) (Only.refl _ w6) (.inr rfl) _) (fun k hk => by have := (hown6.lt k hk).1; show ¬ k = bx; omega)) (by omega)
    · exact (hO5.grown hg6 (fun k hk => by have e2 : some B4 = some k := hk; injection e2 with e2; exact .inl (by omega))).setCell (.inr rfl) _
    · intro k hk
      have := (hown6.lt k hk).1
      omega
  · have hleI : decide (m < W) = true := decide_eq_true (by omega)
    have hleI2 : (m : Int) < (W : Int) := by omega
    have hadd : Tk.add m (x, y) l = [] := by unfold Tk.add; rw [HWW.out, if_neg hle]
    have HADD := Lib.hid hadd
    clear hadd hle
    obtain ⟨v, hv, hb, hr⟩ := hT2
    obtain ⟨A, c, rfl⟩ := own_slice hr
    have hc1 : w2.cell? ⟨bx, 1, none⟩ = some (.slice A l.length c) := cell_of_blk hb 1 _ rfl
    have hf1 : w2.frozen? ⟨bx, 1, none⟩ = false := frozen_of_row w2 bx 1 _ _ hb
    have HB := Lib.hid hb
    clear hb hr hv
    go_wp2
    refine bodyPost_ret (results_none rfl _ _ _) rfl ⟨rfl, none, ?_, hO2.setCell (.inr rfl) _, fun k hk => by cases hk⟩
    rw [HADD.out]
    exact ⟨.slice none 0 0, rfl, (heap_setCell_same _ _ _ _ _ _ HB.out).trans rfl, World.ownsRow_nil _ _ _ _⟩
set_option maxRecDepth 100000 in
theorem rresize_bad (w : World) (bx : Nat) (n : Int) (h : n < 0 ∨ 65536 < n) : Calls Try.prog 37 #[.pointer (some ⟨bx, 0, none⟩), .int .i64 n] w fun e w' => e = .returned (.int .i64 5) ∧ w = w' := by
  by_cases h1 : n < 0
  · go_enter Try.func37, Try.ntmps37
    go_wp2
    go_ret
    exact ⟨rfl, rfl⟩
  · have h2 : 65536 < n := by omega
    go_enter Try.func37, Try.ntmps37
    go_wp2
    go_ret
    exact ⟨rfl, rfl⟩
set_option maxRecDepth 100000 in
theorem rresize_good (w : World) (bx m n : Nat) (g : Option Nat) (l : List Tk.Fd) (h : RTab w bx g m l) (hs : Tk.sum l ≤ 65536) (hn : n ≤ 65536) :
    Calls Try.prog 37 #[.pointer (some ⟨bx, 0, none⟩), .int .i64 (n : Int)] w fun e w' => e = .returned (.int .i64 0) ∧ RShrunk w bx g n (Tk.shr n l) w' := by
  have hgl := h.lt
  obtain ⟨v, hv, hb, hr⟩ := h
  have hc0 : w.cell? ⟨bx, 0, none⟩ = some (.int .i64 (m : Int)) := cell_of_blk hb 0 _ rfl
  have hf0 : w.frozen? ⟨bx, 0, none⟩ = false := frozen_of_row w bx 0 _ _ hb
  have hO2 : Only (· = bx) w (w.setCell ⟨bx, 0, none⟩ (.int .i64 (n : Int))) := Only.setCell (S := fun k => k = bx) (p := ⟨bx, 0, none⟩) (Only.refl _ w) (.inr rfl) _
  have h2 : RTab (w.setCell ⟨bx, 0, none⟩ (.int .i64 (n : Int))) bx g n l := ⟨v, hv, (heap_setCell_same _ _ _ _ _ _ hb).trans rfl, own_only hr hO2 (fun k hk => by have := (hr.lt k hk).1; show ¬ k = bx; omega)⟩
  have hn1 : ¬ (n : Int) < 0 := by omega
  have hn2 : ¬ (65536 : Int) < (n : Int) := by omega
  have HS := Lib.hid hs
  clear hb hr hv hn hs
  go_enter Try.func37, Try.ntmps37
  go_wp2_with fail
  refine (rshrink_any _ bx n n g l h2 HS.out).mono ?_
  rintro e w3 ⟨rfl, hT3, hO3⟩
  go_wp2
  go_ret
  exact ⟨rfl, hT3, hO2.trans hO3⟩
set_option maxRecDepth 100000 in
theorem rstatic_any (w : World) : Calls Try.prog 82 #[] w fun e w' => ∃ A c, e = .returned (.slice A 61 c) ∧ w'.ownsRow w.heap.size 57 2 (.slice A 61 c) 61 (fcells Tk.statics) ∧ Below w.heap.size w w' := by
  go_enter Try.func82, Try.ntmps82
  refine wp_seq_k fun K1 hK1 => ?_
  refine wp_region_lit ?_
  refine wpList_closed rfl (v := .slice none 0 0) (w' := w) (by kernel_rfl) ?_
  refine wpList_nil ?_
  refine hK1 _ _ ?_
  clear hK1 K1
  refine wp_seq_k fun K2 hK2 => ?_
  refine wp_region_lit ?_
  refine wpList_closed rfl (v := .agg #[.string (Tk.statics.getD 0 Tk.nil).1, .string (Tk.statics.getD 0 Tk.nil).2]) (w' := w) (by kernel_rfl) ?_
  refine wpList_closed rfl (v := .agg #[.string (Tk.statics.getD 1 Tk.nil).1, .string (Tk.statics.getD 1 Tk.nil).2]) (w' := w) (by kernel_rfl) ?_
  refine wpList_closed rfl (v := .agg #[.string (Tk.statics.getD 2 Tk.nil).1, .string (Tk.statics.getD 2 Tk.nil).2]) (w' := w) (by kernel_rfl) ?_
  refine wpList_closed rfl (v := .agg #[.string (Tk.statics.getD 3 Tk.nil).1, .string (Tk.statics.getD 3 Tk.nil).2]) (w' := w) (by kernel_rfl) ?_
  refine wpList_closed rfl (v := .agg #[.string (Tk.statics.getD 4 Tk.nil).1, .string (Tk.statics.getD 4 Tk.nil).2]) (w' := w) (by kernel_rfl) ?_
  refine wpList_closed rfl (v := .agg #[.string (Tk.statics.getD 5 Tk.nil).1, .string (Tk.statics.getD 5 Tk.nil).2]) (w' := w) (by kernel_rfl) ?_
  refine wpList_closed rfl (v := .agg #[.string (Tk.statics.getD 6 Tk.nil).1, .string (Tk.statics.getD 6 Tk.nil).2]) (w' := w) (by kernel_rfl) ?_
  refine wpList_closed rfl (v := .agg #[.string (Tk.statics.getD 7 Tk.nil).1, .string (Tk.statics.getD 7 Tk.nil).2]) (w' := w) (by kernel_rfl) ?_
  refine wpList_closed rfl (v := .agg #[.string (Tk.statics.getD 8 Tk.nil).1, .string (Tk.statics.getD 8 Tk.nil).2]) (w' := w) (by kernel_rfl) ?_
  refine wpList_closed rfl (v := .agg #[.string (Tk.statics.getD 9 Tk.nil).1, .string (Tk.statics.getD 9 Tk.nil).2]) (w' := w) (by kernel_rfl) ?_
  refine wpList_closed rfl (v := .agg #[.string (Tk.statics.getD 10 Tk.nil).1, .string (Tk.statics.getD 10 Tk.nil).2]) (w' := w) (by kernel_rfl) ?_
  refine wpList_closed rfl (v := .agg #[.string (Tk.statics.getD 11 Tk.nil).1, .string (Tk.statics.getD 11 Tk.nil).2]) (w' := w) (by kernel_rfl) ?_
  refine wpList_closed rfl (v := .agg #[.string (Tk.statics.getD 12 Tk.nil).1, .string (Tk.statics.getD 12 Tk.nil).2]) (w' := w) (by kernel_rfl) ?_
  refine wpList_closed rfl (v := .agg #[.string (Tk.statics.getD 13 Tk.nil).1, .string (Tk.statics.getD 13 Tk.nil).2]) (w' := w) (by kernel_rfl) ?_
  refine wpList_closed rfl (v := .agg #[.string (Tk.statics.getD 14 Tk.nil).1, .string (Tk.statics.getD 14 Tk.nil).2]) (w' := w) (by kernel_rfl) ?_
  refine wpList_closed rfl (v := .agg #[.string (Tk.statics.getD 15 Tk.nil).1, .string (Tk.statics.getD 15 Tk.nil).2]) (w' := w) (by kernel_rfl) ?_
  refine wpList_closed rfl (v := .agg #[.string (Tk.statics.getD 16 Tk.nil).1, .string (Tk.statics.getD 16 Tk.nil).2]) (w' := w) (by kernel_rfl) ?_
  refine wpList_closed rfl (v := .agg #[.string (Tk.statics.getD 17 Tk.nil).1, .string (Tk.statics.getD 17 Tk.nil).2]) (w' := w) (by kernel_rfl) ?_
  refine wpList_closed rfl (v := .agg #[.string (Tk.statics.getD 18 Tk.nil).1, .string (Tk.statics.getD 18 Tk.nil).2]) (w' := w) (by kernel_rfl) ?_
  refine wpList_closed rfl (v := .agg #[.string (Tk.statics.getD 19 Tk.nil).1, .string (Tk.statics.getD 19 Tk.nil).2]) (w' := w) (by kernel_rfl) ?_
  refine wpList_closed rfl (v := .agg #[.string (Tk.statics.getD 20 Tk.nil).1, .string (Tk.statics.getD 20 Tk.nil).2]) (w' := w) (by kernel_rfl) ?_
  refine wpList_closed rfl (v := .agg #[.string (Tk.statics.getD 21 Tk.nil).1, .string (Tk.statics.getD 21 Tk.nil).2]) (w' := w) (by kernel_rfl) ?_
  refine wpList_closed rfl (v := .agg #[.string (Tk.statics.getD 22 Tk.nil).1, .string (Tk.statics.getD 22 Tk.nil).2]) (w' := w) (by kernel_rfl) ?_
  refine wpList_closed rfl (v := .agg #[.string (Tk.statics.getD 23 Tk.nil).1, .string (Tk.statics.getD 23 Tk.nil).2]) (w' := w) (by kernel_rfl) ?_
  refine wpList_closed rfl (v := .agg #[.string (Tk.statics.getD 24 Tk.nil).1, .string (Tk.statics.getD 24 Tk.nil).2]) (w' := w) (by kernel_rfl) ?_
  refine wpList_closed rfl (v := .agg #[.string (Tk.statics.getD 25 Tk.nil).1, .string (Tk.statics.getD 25 Tk.nil).2]) (w' := w) (by kernel_rfl) ?_
  refine wpList_closed rfl (v := .agg #[.string (Tk.statics.getD 26 Tk.nil).1, .string (Tk.statics.getD 26 Tk.nil).2]) (w' := w) (by kernel_rfl) ?_
  refine wpList_closed rfl (v := .agg #[.string (Tk.statics.getD 27 Tk.nil).1, .string (Tk.statics.getD 27 Tk.nil).2]) (w' := w) (by kernel_rfl) ?_
  refine wpList_closed rfl (v := .agg #[.string (Tk.statics.getD 28 Tk.nil).1, .string (Tk.statics.getD 28 Tk.nil).2]) (w' := w) (by kernel_rfl) ?_
  refine wpList_closed rfl (v := .agg #[.string (Tk.statics.getD 29 Tk.nil).1, .string (Tk.statics.getD 29 Tk.nil).2]) (w' := w) (by kernel_rfl) ?_
  refine wpList_closed rfl (v := .agg #[.string (Tk.statics.getD 30 Tk.nil).1, .string (Tk.statics.getD 30 Tk.nil).2]) (w' := w) (by kernel_rfl) ?_
  refine wpList_closed rfl (v := .agg #[.string (Tk.statics.getD 31 Tk.nil).1, .string (Tk.statics.getD 31 Tk.nil).2]) (w' := w) (by kernel_rfl) ?_
  refine wpList_closed rfl (v := .agg #[.string (Tk.statics.getD 32 Tk.nil).1, .string (Tk.statics.getD 32 Tk.nil).2]) (w' := w) (by kernel_rfl) ?_
  refine wpList_closed rfl (v := .agg #[.string (Tk.statics.getD 33 Tk.nil).1, .string (Tk.statics.getD 33 Tk.nil).2]) (w' := w) (by kernel_rfl) ?_
  refine wpList_closed rfl (v := .agg #[.string (Tk.statics.getD 34 Tk.nil).1, .string (Tk.statics.getD 34 Tk.nil).2]) (w' := w) (by kernel_rfl) ?_
  refine wpList_closed rfl (v := .agg #[.string (Tk.statics.getD 35 Tk.nil).1, .string (Tk.statics.getD 35 Tk.nil).2]) (w' := w) (by kernel_rfl) ?_
  refine wpList_closed rfl (v := .agg #[.string (Tk.statics.getD 36 Tk.nil).1, .string (Tk.statics.getD 36 Tk.nil).2]) (w' := w) (by kernel_rfl) ?_
  refine wpList_closed rfl (v := .agg #[.string (Tk.statics.getD 37 Tk.nil).1, .string (Tk.statics.getD 37 Tk.nil).2]) (w' := w) (by kernel_rfl) ?_
  refine wpList_closed rfl (v := .agg #[.string (Tk.statics.getD 38 Tk.nil).1, .string (Tk.statics.getD 38 Tk.nil).2]) (w' := w) (by kernel_rfl) ?_
  refine wpList_closed rfl (v := .agg #[.string (Tk.statics.getD 39 Tk.nil).1, .string (Tk.statics.getD 39 Tk.nil).2]) (w' := w) (by kernel_rfl) ?_
  refine wpList_closed rfl (v := .agg #[.string (Tk.statics.getD 40 Tk.nil).1, .string (Tk.statics.getD 40 Tk.nil).2]) (w' := w) (by kernel_rfl) ?_
  refine wpList_closed rfl (v := .agg #[.string (Tk.statics.getD 41 Tk.nil).1, .string (Tk.statics.getD 41 Tk.nil).2]) (w' := w) (by kernel_rfl) ?_
  refine wpList_closed rfl (v := .agg #[.string (Tk.statics.getD 42 Tk.nil).1, .string (Tk.statics.getD 42 Tk.nil).2]) (w' := w) (by kernel_rfl) ?_
  refine wpList_closed rfl (v := .agg #[.string (Tk.statics.getD 43 Tk.nil).1, .string (Tk.statics.getD 43 Tk.nil).2]) (w' := w) (by kernel_rfl) ?_
  refine wpList_closed rfl (v := .agg #[.string (Tk.statics.getD 44 Tk.nil).1, .string (Tk.statics.getD 44 Tk.nil).2]) (w' := w) (by kernel_rfl) ?_
  refine wpList_closed rfl (v := .agg #[.string (Tk.statics.getD 45 Tk.nil).1, .string (Tk.statics.getD 45 Tk.nil).2]) (w' := w) (by kernel_rfl) ?_
  refine wpList_closed rfl (v := .agg #[.string (Tk.statics.getD 46 Tk.nil).1, .string (Tk.statics.getD 46 Tk.nil).2]) (w' := w) (by kernel_rfl) ?_
  refine wpList_closed rfl (v := .agg #[.string (Tk.statics.getD 47 Tk.nil).1, .string (Tk.statics.getD 47 Tk.nil).2]) (w' := w) (by kernel_rfl) ?_
  refine wpList_closed rfl (v := .agg #[.string (Tk.statics.getD 48 Tk.nil).1, .string (Tk.statics.getD 48 Tk.nil).2]) (w' := w) (by kernel_rfl) ?_
  refine wpList_closed rfl (v := .agg #[.string (Tk.statics.getD 49 Tk.nil).1, .string (Tk.statics.getD 49 Tk.nil).2]) (w' := w) (by kernel_rfl) ?_
  refine wpList_closed rfl (v := .agg #[.string (Tk.statics.getD 50 Tk.nil).1, .string (Tk.statics.getD 50 Tk.nil).2]) (w' := w) (by kernel_rfl) ?_
  refine wpList_closed rfl (v := .agg #[.string (Tk.statics.getD 51 Tk.nil).1, .string (Tk.statics.getD 51 Tk.nil).2]) (w' := w) (by kernel_rfl) ?_
  refine wpList_closed rfl (v := .agg #[.string (Tk.statics.getD 52 Tk.nil).1, .string (Tk.statics.getD 52 Tk.nil).2]) (w' := w) (by kernel_rfl) ?_
  refine wpList_closed rfl (v := .agg #[.string (Tk.statics.getD 53 Tk.nil).1, .string (Tk.statics.getD 53 Tk.nil).2]) (w' := w) (by kernel_rfl) ?_
  refine wpList_closed rfl (v := .agg #[.string (Tk.statics.getD 54 Tk.nil).1, .string (Tk.statics.getD 54 Tk.nil).2]) (w' := w) (by kernel_rfl) ?_
  refine wpList_closed rfl (v := .agg #[.string (Tk.statics.getD 55 Tk.nil).1, .string (Tk.statics.getD 55 Tk.nil).2]) (w' := w) (by kernel_rfl) ?_
  refine wpList_closed rfl (v := .agg #[.string (Tk.statics.getD 56 Tk.nil).1, .string (Tk.statics.getD 56 Tk.nil).2]) (w' := w) (by kernel_rfl) ?_
  refine wpList_closed rfl (v := .agg #[.string (Tk.statics.getD 57 Tk.nil).1, .string (Tk.statics.getD 57 Tk.nil).2]) (w' := w) (by kernel_rfl) ?_
  refine wpList_closed rfl (v := .agg #[.string (Tk.statics.getD 58 Tk.nil).1, .string (Tk.statics.getD 58 Tk.nil).2]) (w' := w) (by kernel_rfl) ?_
  refine wpList_closed rfl (v := .agg #[.string (Tk.statics.getD 59 Tk.nil).1, .string (Tk.statics.getD 59 Tk.nil).2]) (w' := w) (by kernel_rfl) ?_
  refine wpList_closed rfl (v := .agg #[.string (Tk.statics.getD 60 Tk.nil).1, .string (Tk.statics.getD 60 Tk.nil).2]) (w' := w) (by kernel_rfl) ?_
  refine wpList_closed rfl (v := .slice (some ⟨w.heap.size, 0, none⟩) 61 61) (w' := w.alloc (.cells statA 57)) (by kernel_rfl) ?_
  refine wpList_closed rfl (v := .slice (some ⟨w.heap.size, 0, none⟩) 61 61) (w' := w.alloc (.cells statA 57)) (by kernel_rfl) ?_
  refine wpList_nil ?_
  refine hK2 _ _ ?_
  clear hK2 K2
  have hown : (w.alloc (.cells statA 57)).ownsRow w.heap.size 57 2 (.slice (some ⟨w.heap.size, 0, none⟩) 61 61) 61 (fcells Tk.statics) := World.ownsRow_lit (base := w.heap.size) (e := 57) (size := 2) w statA 61 (Nat.le_refl _) (by unfold maxLen; omega) statA_size
  have hB : Below w.heap.size w (w.alloc (.cells statA 57)) := (Below.refl _ _).alloc (Nat.le_refl _) _
  generalize w.alloc (.cells statA 57) = w1 at *
  refine wp_ret ?_
  refine bodyPost_ret (v := .slice (some ⟨w.heap.size, 0, none⟩) 61 61) ?_ rfl ⟨_, _, rfl, hown, hB⟩
  kernel_rfl
end Go.Proofs.Ytmjibpjnhehnnaa
