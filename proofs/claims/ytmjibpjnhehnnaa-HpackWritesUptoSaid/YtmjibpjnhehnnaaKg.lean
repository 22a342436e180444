/- A reading's number and its taking of a field, walked. -/
import Derived.Test.YtmjibpjnhehnnaaKe
import Derived.Test.YtmjibpjnhehnnaaPd
import Derived.Deep.LoopGhost
import Derived.StillTailTactics
namespace Go.Proofs.Ytmjibpjnhehnnaa
open Go.RowKit
attribute [local go_sem ↓] Go.wp_at_zero Go.wp_at_succ

set_option maxRecDepth 100000 in
set_option maxHeartbeats 1000000 in
theorem number_any (w0 w : World) (b d : Nat) (g0 : Option Nat) (r lst lim : Nat) (bx : List (Nat × Obj)) (s : Hk.Rd) (h : Rk w0 b d g0 r lst lim bx s w) (hb : Hf.Byte s.rest) (bs n k e : Nat) (hbs : Hk.bits (s.rest.getD 0 0) = bs) (hn : Hk.num s = (n, k, e)) :
    Calls Try.prog 42 #[.pointer (some ⟨r, 0, none⟩), .int .i64 (bs : Int)] w fun en w' => en = .returned (.tuple #[.int .i64 (n : Int), .int .i64 (e : Int)]) ∧ Rk w0 b d g0 r lst lim bx (Hk.behind s k) w' := by
  have hbl := Hk.bits_le (s.rest.getD 0 0)
  have hk := (Hk.num_used s).1
  rw [hn] at hk
  simp only at hk
  rw [hbs] at hbl
  have hrd : Pr.read (nats (strN s.rest)) (2 ^ bs) = (n, k, e) := by rw [nats_strN _ hb, ← hbs]; exact hn
  have HRI := Lib.hid (fun w => readInt_good (strN s.rest) bs (2 ^ bs) (n, k, e) w (by omega) (by omega) rfl hrd)
  have hext := strN_drop s.rest k hk
  have hsl := fun w => run_slice_string_l (P := Try.prog) w 9 (strN s.rest) Try.underlying9 .i64 (k : Int) (by omega) (by rw [strN_size]; omega)
  simp only [Int.toNat_natCast, hext] at hsl
  obtain ⟨g, v, hT, hd, hr, ho, hne, hz, hO, hg, hx⟩ := h
  have hc1 : w.cell? ⟨r, 1, none⟩ = some (.string (strN s.rest)) := bcell_of hr 1 _ rfl
  have hf1 : w.frozen? ⟨r, 1, none⟩ = false := frozen_of_row w r 1 _ _ hr
  have hR3 : Rk w0 b d g0 r lst lim bx (Hk.behind s k) (w.setCell ⟨r, 1, none⟩ (.string (strN (s.rest.drop k)))) := Rk.set hT hd hr ho hne hz hO hg hx rfl rfl rfl rfl
  clear hT hd hr ho hne hz hO hg hx hrd hext hk hn hbs hbl
  go_enter Try.func42, Try.ntmps42
  go_wp2_with fail
  refine (HRI.out _).mono ?_
  rintro en w2 ⟨rfl, rfl⟩
  go_wp2
  go_ret2
  exact ⟨rfl, hR3⟩

theorem own_box (W : World) (x y : ByteArray) : (W.alloc (.cells #[.string x, .string y] 57)).ownsRow W.heap.size 57 2 (.slice (some ⟨W.heap.size, 0, none⟩) 1 1) 1 (fcells [(x, y)]) :=
  ⟨rfl, .inr ⟨W.heap.size, 1, _, rfl, Nat.le_refl _, heap_alloc_new W _, Nat.le_refl _, by unfold maxLen; omega, rfl, rfl⟩⟩
section
variable {o : Oper} {a : Act} {K : Act → World → Prop} {Q : Exit → Act → World → Prop}
/-- append(l, f) of fields, at its operation in a region that draws: the field's box has just been laid. -/
theorem wp_fpush_drew {W : World} (base : Nat) (s x : Operand)
    (ho : o.op = .call { callee := .builtin .append, args := #[s, x], argTypes := #[28, 28] })
    (v : Value) (n : Nat) (l1 : List Tk.Fd) (fx fy : ByteArray) (hs : a.eval s = v) (hx : a.eval x = .slice (some ⟨W.heap.size, 0, none⟩) 1 1) (HO : W.ownsRow base 57 2 v n (fcells l1))
    (hbase : base ≤ W.heap.size) (hm : n + 1 ≤ 4398046511104)
    (h : ∀ v1 w1, w1.ownsRow base 57 2 v1 (n + 1) (fcells (l1 ++ [(fx, fy)])) → (W.alloc (.cells #[.string fx, .string fy] 57)).grownBy w1 v.ownBlock → (v1.ownBlock = v.ownBlock ∨ v1.ownBlock = some (W.heap.size + 1)) → K (a.put o.dst v1) w1) :
    Oper.wp Try.prog o a (W.alloc (.cells #[.string fx, .string fy] 57)).drew K Q :=
  wp_fields (W := (W.alloc (.cells #[.string fx, .string fy] 57)).drew) base W.heap.size s x ho v _ n 1 l1 [(fx, fy)] hs hx (own_drewN (HO.alloc _) 1) (own_drewN (own_box W fx fy) 1) (by simp; omega) hm
    fun v1 w1 h1 h2 h3 => h v1 w1 h1 ⟨h2.os, h2.tape, h2.output, h2.size, h2.block⟩ (by simpa using h3)
end

set_option maxRecDepth 100000 in
set_option maxHeartbeats 2000000 in
theorem take_any (w0 w : World) (b d : Nat) (g0 : Option Nat) (r lst lim : Nat) (bx : List (Nat × Obj)) (s : Hk.Rd) (h : Rk w0 b d g0 r lst lim bx s w) (x y : ByteArray) (hw : s.weight + Tk.wt (x, y) ≤ 70368744177664) (hs : Tk.sum s.out ≤ s.weight) :
    Calls Try.prog 63 #[.pointer (some ⟨r, 0, none⟩), .agg #[.string x, .string y]] w fun e w' => e = .returned (.int .i64 0) ∧ Rk w0 b d g0 r lst lim bx (Hk.take lst (x, y) s) w' := by
  have hf : Fits (x, y) := by unfold Tk.wt at hw; exact ⟨by simp only at *; omega, by simp only at *; omega⟩
  have hcnt := Tk.sum_ge s.out
  have hrl := h.lt
  have HWT := Lib.hid (fun w => weight_any w x y hf)
  obtain ⟨W, hW⟩ : ∃ W, W = s.weight + Tk.wt (x, y) := ⟨_, rfl⟩
  have hWle : W ≤ 70368744177664 := by omega
  have htake : Hk.take lst (x, y) s = { s with begun := true, weight := W, out := if W ≤ lst then s.out ++ [(x, y)] else s.out } := by unfold Hk.take; rw [hW]
  rw [htake]
  have HW := Lib.hid hW
  clear htake hW hw hf
  go_enter Try.func63, Try.ntmps63
  go_upto_region 1 with fail
  have hR1 := h.below (w' := w.alloc (.cells #[.string x, .string y] 57)) ((Below.refl _ _).alloc (Nat.le_refl _) _)
  have hbox := heap_alloc_new w (.cells #[.string x, .string y] 57)
  generalize w.alloc (.cells #[.string x, .string y] 57) = w1 at *
  generalize w.heap.size = B at *
  clear h
  obtain ⟨g, v, hT, hd, hr, ho, hne, hz, hO, hg, hx⟩ := hR1
  have hc2 : w1.cell? ⟨r, 2, none⟩ = some (.bool s.begun) := bcell_of hr 2 _ rfl
  have hf2 : w1.frozen? ⟨r, 2, none⟩ = false := frozen_of_row w1 r 2 _ _ hr
  have hR2 : Rk w0 b d g0 r lst lim bx { s with begun := true } (w1.setCell ⟨r, 2, none⟩ (.bool true)) := Rk.set hT hd hr ho hne hz hO hg hx rfl rfl rfl rfl
  have hbox2 : (w1.setCell ⟨r, 2, none⟩ (.bool true)).heap[B]? = _ := (Below.heap_setCell _ _ _ _ (by show B ≠ r; omega)).trans hbox
  clear hT hd hr ho hne hz hO hg hx hbox
  clear g v
  go_upto_region 2 with fail
  clear hc2 hf2
  generalize w1.setCell ⟨r, 2, none⟩ (.bool true) = w2 at *
  have HBX := Lib.hid hbox2
  clear hbox2
  go_upto_region 3 with fail
  go_cut [] (fun wx => Rk w0 b d g0 r lst lim bx { s with begun := true, weight := W } wx ∧ wx.heap[B]? = some (.cells #[.string x, .string y] 57 (0, 0)))
  case first =>
    have hc3 : w2.cell? ⟨r, 3, none⟩ = some (.int .i64 (s.weight : Int)) := by obtain ⟨g, v, hT, hd, hr, _⟩ := hR2; exact bcell_of hr 3 _ rfl
    have hb0 : w2.cell? ⟨B, 0, none⟩ = some (.string x) := bcell_of HBX.out 0 _ rfl
    have hb1 : w2.cell? ⟨B, 1, none⟩ = some (.string y) := bcell_of HBX.out 1 _ rfl
    have hadd : IntKind.i64.wrap ((s.weight : Int) + (Tk.wt (x, y) : Int)) = (W : Int) := by have := HW.out; rw [IntWalk.i64_in _ (by omega)]; omega
    go_region_law (first | (go_simp; go_at_call 53; refine (HWT.out _).mono ?_; rintro e w4 ⟨rfl, hb4⟩; have hR4 := hR2.below (below_undrew hb4); have hbx4 := ((below_undrew hb4).block B (heap_lt HBX.out)).trans HBX.out; have hc34 : w4.cell? ⟨r, 3, none⟩ = some (.int .i64 (s.weight : Int)) := (by obtain ⟨g, v, hT, hd, hr, _⟩ := hR4; exact bcell_of hr 3 _ rfl); have hf34 : w4.frozen? ⟨r, 3, none⟩ = false := (by obtain ⟨g, v, hT, hd, hr, _⟩ := hR4; exact frozen_of_row w4 r 3 _ _ hr)))
    all_goals
      clear hc3 hb0 hb1 hadd hc34 hf34
      obtain ⟨g, v, hT, hd, hr, ho, hne, hz, hO, hg, hx⟩ := hR4
      have hR5 : Rk w0 b d g0 r lst lim bx { s with begun := true, weight := W } (w4.setCell ⟨r, 3, none⟩ (.int .i64 (W : Int))) := Rk.set hT hd hr ho hne hz hO hg hx rfl rfl rfl rfl
      have hbx5 : (w4.setCell ⟨r, 3, none⟩ (.int .i64 (W : Int))).heap[B]? = _ := (Below.heap_setCell _ _ _ _ (by show B ≠ r; omega)).trans hbx4
      clear hT hd hr ho hne hz hO hg hx hbx4
      go_wp2
      go_meet
      exact ⟨hR5, hbx5⟩
  case rest =>
    obtain ⟨hR3, hbx3⟩ := hcut
    obtain ⟨g, v, hT, hd, hr, ho, hne, hz, hO, hg, hx⟩ := hR3
    obtain ⟨A, c, rfl⟩ := own_slice ho
    have hc0 : wc.cell? ⟨r, 0, none⟩ = some (.pointer (some ⟨d, 0, none⟩)) := bcell_of hr 0 _ rfl
    have hc3 : wc.cell? ⟨r, 3, none⟩ = some (.int .i64 (W : Int)) := bcell_of hr 3 _ rfl
    have hc4 : wc.cell? ⟨r, 4, none⟩ = some (.slice A s.out.length c) := bcell_of hr 4 _ rfl
    have hd1 : wc.cell? ⟨d, 1, none⟩ = some (.int .i64 (lst : Int)) := bcell_of hd 1 _ rfl
    have hb0 : wc.cell? ⟨B, 0, none⟩ = some (.string x) := bcell_of hbx3 0 _ rfl
    have hb1 : wc.cell? ⟨B, 1, none⟩ = some (.string y) := bcell_of hbx3 1 _ rfl
    have HR := Lib.hid hr
    have HD := Lib.hid hd
    have HBX3 := Lib.hid hbx3
    clear hr hd hbx3
    by_cases hle : W ≤ lst
    · have hleI : (W : Int) ≤ (lst : Int) := by omega
      have HLE := Lib.hid hle
      clear hle
      go_wp2
      go_quiet (fail)
      go_wp2
      have hR4 : Rk w0 b d g0 r lst lim bx { s with begun := true, weight := W } wc := ⟨g, _, hT, HD.out, HR.out, ho, hne, hz, hO, hg, hx⟩
      clear hT ho hne hz hO hg hx HR HD hc0 hc3 hc4 hd1 hb0 hb1
      clear g
      have hR5 := hR4.drewN nq
      have hbx5 : (wc.drewN nq).heap[B]? = _ := HBX3.out
      generalize wc.drewN nq = wd at *
      clear hR4
      have hR6 := hR5.drewN 1
      have hbx6 : (wd.drewN 1).heap[B]? = _ := hbx5
      obtain ⟨g, v, hT, hd, hr, ho, hne, hz, hO, hg, hx⟩ := hR5
      have hc4 : wd.cell? ⟨r, 4, none⟩ = some v := bcell_of hr 4 _ rfl
      have hb0 : wd.cell? ⟨B, 0, none⟩ = some (.string x) := bcell_of hbx5 0 _ rfl
      have hb1 : wd.cell? ⟨B, 1, none⟩ = some (.string y) := bcell_of hbx5 1 _ rfl
      obtain ⟨A1, c1, rfl⟩ := own_slice ho
      have HR := Lib.hid hr
      have hlr := heap_lt hr
      have hsz : r + 1 ≤ wd.heap.size := hlr
      have hcn : s.out.length + 1 ≤ 4398046511104 := by have := HW.out; omega
      have hal : ∀ o1, (wd.alloc o1).cell? ⟨r, 4, none⟩ = some (.slice A1 s.out.length c1) := fun o1 => (((Below.refl wd.heap.size wd).alloc (Nat.le_refl _) o1).cell (p := ⟨r, 4, none⟩) hlr).trans hc4
      have hro := fun k hk => (ho.lt k hk).1
      have hrt := own_type ho
      clear hr hbx5 hR6 hbx6
      go_region_law (first | (refine if_pos_wp (by rfl) ?_; go_must (refine wp_fpush_drew (W := wd) (r + 1) _ _ (by rfl) (.slice A1 s.out.length c1) s.out.length s.out x y (by rfl) (by rfl) (by exact ho) (by exact hsz) (by exact hcn) ?_); intro v7 w7 hown7 hg7 hat7; obtain ⟨A7, c7, rfl⟩ := own_slice hown7; have hO7 : Only (fun k => k = r ∨ (Value.slice A1 s.out.length c1).ownBlock = some k) wd w7 := ((Only.refl _ wd).alloc _).grown hg7 (fun k hk => .inr (.inr hk)); have hr7 : w7.heap[r]? = _ := (hg7.block r (by simp; omega) (fun e => by have := hro r e.symm; omega)).trans ((Below.heap_alloc _ _ _ hlr).trans HR.out); have hc47 : w7.cell? ⟨r, 4, none⟩ = some (.slice A1 s.out.length c1) := bcell_of hr7 4 _ rfl; have hf47 : w7.frozen? ⟨r, 4, none⟩ = false := frozen_of_row w7 r 4 _ _ hr7; have HR7 := Lib.hid hr7; clear hr7))
      all_goals
        have hr8 := heap_setCell_same w7 r 4 _ _ (.slice A7 (s.out.length + 1) c7) HR7.out
        have ho8 : (w7.setCell ⟨r, 4, none⟩ (.slice A7 (s.out.length + 1) c7)).ownsRow (r + 1) 57 2 (.slice A7 (s.out.length + 1) c7) (s.out ++ [(x, y)]).length (fcells (s.out ++ [(x, y)])) := by
          rw [List.length_append]
          refine own_only hown7 (S := fun k => k = r) (Only.setCell (S := fun k => k = r) (p := ⟨r, 4, none⟩) (Only.refl _ w7) (.inr rfl) _) ?_
          intro k hk e
          obtain ⟨_, cs, hc⟩ := own_type hown7 k hk
          exact blk_type_ne hc HR7.out (by decide) e
        have hR8 : Rk w0 b d g0 r lst lim bx { s with begun := true, weight := W, out := s.out ++ [(x, y)] } (w7.setCell ⟨r, 4, none⟩ (.slice A7 (s.out.length + 1) c7)) :=
          Rk.upd hT hd HR.out ho hne hz hO hg hx rfl rfl (hr8.trans rfl) ho8 (hO7.setCell (.inr (.inl rfl)) _) (fun k hk => by
            rcases hat7 with e | e
            · exact .inl (by rw [← e]; exact hk)
            · rw [e] at hk; injection hk with hk; exact .inr (by omega))
        clear hT hd ho hne hz hO hg hx hr8 ho8 hown7 hg7 hat7 hO7 hc47 hf47 hc4 hb0 hb1 hal hro hrt
        go_wp2
        go_ret
        first | exact ⟨rfl, hR8⟩ | (rw [if_pos HLE.out]; exact ⟨rfl, hR8⟩)
    · have hleI : ¬ (W : Int) ≤ (lst : Int) := by omega
      have HLE := Lib.hid hle
      clear hle
      go_wp2
      go_quiet (fail)
      go_wp2
      go_ret
      have hR5 : Rk w0 b d g0 r lst lim bx { s with begun := true, weight := W } wc := ⟨g, _, hT, HD.out, HR.out, ho, hne, hz, hO, hg, hx⟩
      exact ⟨rfl, hR5.drewN nq⟩
end Go.Proofs.Ytmjibpjnhehnnaa
