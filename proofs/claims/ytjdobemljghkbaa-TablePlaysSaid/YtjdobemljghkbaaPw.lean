/- Whatever is added, found and resized, a table is as the document says: walked whole. -/
import Derived.Test.YtjdobemljghkbaaTp
import Derived.Deep.Slices
namespace Go.Proofs.Ytjdobemljghkbaa
open Go.RowKit
attribute [local go_sem ↓] Go.wp_at_zero Go.wp_at_succ
theorem TB.drew {w0 w : World} {b bx m m2 : Nat} {l l2 : List Tk.Fd} {B : Nat} {ob : Obj} (h : TB w0 b bx m m2 l l2 B ob w) : TB w0 b bx m m2 l l2 B ob w.drew := by
  obtain ⟨g, g2, h1, h2, h3, h4, h5, h6, h7, h8⟩ := h
  exact ⟨g, g2, h1.below (Below.refl _ _).drew, h2.below (Below.refl _ _).drew, h3, h4, h5, h6, h7, h8.drew⟩
theorem four {w w' : World} {bx B : Nat} {v0 v1 v2 v3 : Value} (hb : Below w.heap.size w w') (h : w.cell? ⟨bx, 0, none⟩ = some v0 ∧ w.cell? ⟨bx, 1, none⟩ = some v1 ∧ w.cell? ⟨B, 2, none⟩ = some v2 ∧ w.cell? ⟨B, 3, none⟩ = some v3) : w'.cell? ⟨bx, 0, none⟩ = some v0 ∧ w'.cell? ⟨bx, 1, none⟩ = some v1 ∧ w'.cell? ⟨B, 2, none⟩ = some v2 ∧ w'.cell? ⟨B, 3, none⟩ = some v3 :=
  ⟨(hb.cell (World.block_lt_of_cell? w _ h.1)).trans h.1, (hb.cell (World.block_lt_of_cell? w _ h.2.1)).trans h.2.1, (hb.cell (World.block_lt_of_cell? w _ h.2.2.1)).trans h.2.2.1, (hb.cell (World.block_lt_of_cell? w _ h.2.2.2)).trans h.2.2.2⟩
theorem Addr.add_lit2 (y : Addr) (j : Nat) (hj : j ≠ 0) : y.add j = ⟨y.block, y.off + j, none⟩ := by
  cases j with
  | zero => exact absurd rfl hj
  | succ j => simp [Addr.add]

set_option maxRecDepth 100000 in
set_option maxHeartbeats 4000000 in
theorem plays_bad (w : World) (n : Int) (hn : n < 0 ∨ 65536 < n) (a : Option Addr) (len cap : Nat) : Calls Try.prog 5 #[.int .i64 n, .slice a len cap] w fun e w' => e = .returned (.bool true) ∧ Below w.heap.size w w' := by
  go_enter Try.func5, Try.ntmps5
  go_wp2_with fail
  refine (new_bad w n hn).mono ?_
  rintro e w1 ⟨rfl, rfl⟩
  go_wp2_with fail
  refine (rnew_bad w n hn).mono ?_
  rintro e w1 ⟨rfl, rfl⟩
  go_wp2_with fail
  refine (awake_true w).mono ?_
  rintro e w1 ⟨rfl, hb⟩
  go_wp2
  go_ret
  exact ⟨rfl, hb⟩

set_option maxRecDepth 100000 in
set_option maxHeartbeats 8000000 in
theorem plays_good (w : World) (n : Nat) (hn : n ≤ 65536) (a : Option Addr) (len cap : Nat) (hlen : len * 48 ≤ 140737488351232) (hc : ∀ i, i < len → CallAt w a i) : Calls Try.prog 5 #[.int .i64 (n : Int), .slice a len cap] w fun e w' => e = .returned (.bool true) ∧ Below w.heap.size w w' := by
  go_enter Try.func5, Try.ntmps5
  go_wp2_with fail
  refine (new_good w n hn).mono ?_
  rintro e w1 ⟨rfl, hb1, hz1, hT1⟩
  go_wp2_with fail
  refine (rnew_good w1 n hn).mono ?_
  rintro e w2 ⟨rfl, hb2, hz2, hR2⟩
  have hP : TN w w.heap.size w1.heap.size n [] w2 := ⟨none, none, hT1.below hb2, hR2, by omega, (fun k hk => by cases hk), (fun k hk => by cases hk), bel2 hb1 hb2⟩
  generalize hbb : w.heap.size = b at *
  have HBB := Lib.hid hbb
  generalize w1.heap.size = bx at *
  clear hbb hb1 hb2 hT1 hR2 hz1 hz2
  go_wp2
  go_loopw [9] (fun i wr => ∃ (k m : Nat) (l : List Tk.Fd), k ≤ len ∧ i = .int .i64 k ∧ Tk.sum l ≤ m ∧ m ≤ 65536 ∧ TN w b bx m l wr) (fun i _ => len - (intOf i).toNat)
  case atStart => exact ⟨0, n, [], Nat.zero_le _, rfl, Nat.zero_le _, hn, hP⟩
  case round =>
    clear hP hn
    obtain ⟨k, m, l, hk, rfl, hs, hm, hP⟩ := hrel
    have hs64 : Tk.sum l ≤ 65536 := by omega
    by_cases hlt : k < len
    · obtain ⟨x, rfl, hxb, wh, n, s, t, ⟨hw0, hw1⟩, ⟨hn0, hn1⟩, hfit, hcA, hcB, hcC, hcD⟩ := hc k hlt
      have HC := Lib.hid hc
      have hbel : Below b w wr := by obtain ⟨_, _, _, _, _, _, _, h⟩ := hP; exact h
      rw [HBB.out] at hxb
      have hcA' := (hbel.cell (p := x.add (k * 4)) (by rw [add_block]; exact hxb)).trans hcA
      have hcB' := (hbel.cell (p := x.add (k * 4 + 1)) (by rw [add_block]; exact hxb)).trans hcB
      have hcC' := (hbel.cell (p := x.add (k * 4 + 2)) (by rw [add_block]; exact hxb)).trans hcC
      have hcD' := (hbel.cell (p := x.add (k * 4 + 3)) (by rw [add_block]; exact hxb)).trans hcD
      rw [← Go.Deep.add_add x (k * 4) 1, Addr.add_lit2 _ 1 (by decide)] at hcB'
      rw [← Go.Deep.add_add x (k * 4) 2, Addr.add_lit2 _ 2 (by decide)] at hcC'
      rw [← Go.Deep.add_add x (k * 4) 3, Addr.add_lit2 _ 3 (by decide)] at hcD'
      clear hc hcA hcB hcC hcD hbel
      have hkc : (0 : Int) ≤ (k : Int) := by omega
      have hm4 : wh % 4 = 0 ∨ wh % 4 = 1 ∨ wh % 4 = 2 ∨ wh % 4 = 3 := by omega
      have hP0 := hP.box (.cells #[.int .u8 wh, .int .i64 n, .string s, .string t] 52)
      clear hP
      go_upto_region 11 with fail
      clear hcA' hcB' hcC' hcD' hxb
      generalize wr.alloc (.cells #[.int .u8 wh, .int .i64 n, .string s, .string t] 52) = w1 at *
      generalize wr.heap.size = B at *
      have HX := Lib.hid hP0.lt.2.2.2.1
      have hb0 : w1.cell? ⟨B, 0, none⟩ = some (.int .u8 wh) := cell_of_blk HX.out 0 _ rfl
      have hb1 : w1.cell? ⟨B, 1, none⟩ = some (.int .i64 n) := cell_of_blk HX.out 1 _ rfl
      have hb2 : w1.cell? ⟨B, 2, none⟩ = some (.string s) := cell_of_blk HX.out 2 _ rfl
      have hb3 : w1.cell? ⟨B, 3, none⟩ = some (.string t) := cell_of_blk HX.out 3 _ rfl
      rcases hm4 with hm4 | hm4 | hm4 | hm4
      · have hm4n : wh.tmod 4 = 0 := (Int.tmod_eq_emod_of_nonneg hw0).trans hm4
        go_wp2_with fail
        refine (tb_add hP0 hs hm s t hfit).mono ?_
        rintro e w2 ⟨rfl, hP2⟩
        clear hb0 hb1 hb2 hb3 HX hP0
        have HX := Lib.hid hP2.lt.2.2.2.1
        have hb2 : w2.cell? ⟨B, 2, none⟩ = some (.string s) := cell_of_blk HX.out 2 _ rfl
        have hb3 : w2.cell? ⟨B, 3, none⟩ = some (.string t) := cell_of_blk HX.out 3 _ rfl
        go_wp2_with fail
        refine (tb_radd hP2 hs64 hm s t hfit).mono ?_
        rintro e w3 ⟨rfl, hP3⟩
        clear hb2 hb3 HX hP2
        have hs' := Tk.add_sum m (s, t) l
        generalize Tk.add m (s, t) l = l' at *
        have hs64' : Tk.sum l' ≤ 65536 := by omega
        have hP3d := hP3.drew
        obtain ⟨A9, c9, hA0, hA1⟩ := hP3d.cells
        have hX2 := hP3d.lt.2.2.2.1
        have hS0 := And.intro hA0 (And.intro hA1 (And.intro (cell_of_blk hX2 2 _ rfl) (cell_of_blk hX2 3 _ rfl)))
        clear hX2 hA0 hA1
        go_upto_region 27 with fail
        go_region_held3 (fun w' => w'.cell? ⟨bx, 0, none⟩ = some (.int .i64 ((m : Nat) : Int)) ∧ w'.cell? ⟨bx, 1, none⟩ = some (.slice A9 ((l' : List Tk.Fd)).length c9) ∧ w'.cell? ⟨B, 2, none⟩ = some (.string s) ∧ w'.cell? ⟨B, 3, none⟩ = some (.string t)) (first | exact hS0 | exact hS5 | exact hS6 | exact hS7) (first | (go_at_call 29; refine (tb_size (by exact hP3d)).mono ?_; rintro e wq ⟨rfl, rfl⟩) | (go_at_call 30; refine (tb_rsize (by exact hP3d) (by exact hs64')).mono ?_; rintro e v5 ⟨rfl, hb5⟩; have hP5 := hP3d.below hb5; have hS5 := four hb5 hS0) | (go_at_call 31; refine (tb_most (by exact hP5)).mono ?_; rintro e wq ⟨rfl, rfl⟩) | (go_at_call 32; refine (tb_len (by exact hP5)).mono ?_; rintro e wq ⟨rfl, rfl⟩) | (go_at_call 33; refine (weight_any _ s t hfit).mono ?_; rintro e v6 ⟨rfl, hb6⟩; have hP6 := hP5.below hb6; have hS6 := four hb6 hS5) | (go_at_call 34; refine (rweight_any _ s t hfit).mono ?_; rintro e v7 ⟨rfl, hb7⟩; have hP7 := hP6.below hb7; have hS7 := four hb7 hS6))
        go_wp2
        refine ⟨⟨k + 1, m, l', by omega, by go_num, hs', hm, hP7.forget⟩, ?_⟩
        simp [intOf]
        omega
      · have hm4n : wh.tmod 4 = 1 := (Int.tmod_eq_emod_of_nonneg hw0).trans hm4
        by_cases hbad : n < 0 ∨ 65536 < n
        · go_upto_region 20 with fail
          go_region_held3 (fun w' => w'.cell? ⟨B, 1, none⟩ = some (.int .i64 (n : Int))) (first | exact hb1 | exact hb12 | exact hb13) (first | (go_at_call 25; refine (resize_bad _ b n hbad).mono ?_; rintro e wq ⟨rfl, rfl⟩) | (go_at_call 26; refine (rresize_bad _ bx n hbad).mono ?_; rintro e wq ⟨rfl, rfl⟩))
          have hP3 := hP0.drew
          clear hb0 hb1 hb2 hb3 HX hP0
          clear hbad
          generalize w1.drew = w3 at *
          have hP3d := hP3.drew
          obtain ⟨A9, c9, hA0, hA1⟩ := hP3d.cells
          have hX2 := hP3d.lt.2.2.2.1
          have hS0 := And.intro hA0 (And.intro hA1 (And.intro (cell_of_blk hX2 2 _ rfl) (cell_of_blk hX2 3 _ rfl)))
          clear hX2 hA0 hA1
          go_upto_region 27 with fail
          go_region_held3 (fun w' => w'.cell? ⟨bx, 0, none⟩ = some (.int .i64 ((m : Nat) : Int)) ∧ w'.cell? ⟨bx, 1, none⟩ = some (.slice A9 ((l : List Tk.Fd)).length c9) ∧ w'.cell? ⟨B, 2, none⟩ = some (.string s) ∧ w'.cell? ⟨B, 3, none⟩ = some (.string t)) (first | exact hS0 | exact hS5 | exact hS6 | exact hS7) (first | (go_at_call 29; refine (tb_size (by exact hP3d)).mono ?_; rintro e wq ⟨rfl, rfl⟩) | (go_at_call 30; refine (tb_rsize (by exact hP3d) (by exact hs64)).mono ?_; rintro e v5 ⟨rfl, hb5⟩; have hP5 := hP3d.below hb5; have hS5 := four hb5 hS0) | (go_at_call 31; refine (tb_most (by exact hP5)).mono ?_; rintro e wq ⟨rfl, rfl⟩) | (go_at_call 32; refine (tb_len (by exact hP5)).mono ?_; rintro e wq ⟨rfl, rfl⟩) | (go_at_call 33; refine (weight_any _ s t hfit).mono ?_; rintro e v6 ⟨rfl, hb6⟩; have hP6 := hP5.below hb6; have hS6 := four hb6 hS5) | (go_at_call 34; refine (rweight_any _ s t hfit).mono ?_; rintro e v7 ⟨rfl, hb7⟩; have hP7 := hP6.below hb7; have hS7 := four hb7 hS6))
          go_wp2
          refine ⟨⟨k + 1, m, l, by omega, by go_num, hs, hm, hP7.forget⟩, ?_⟩
          simp [intOf]
          omega
        · obtain ⟨n', rfl⟩ : ∃ n' : Nat, n = (n' : Int) := ⟨n.toNat, by omega⟩
          have hn' : n' ≤ 65536 := by omega
          clear hbad
          have hP0d := hP0.drew
          go_upto_region 20 with fail
          go_region_held3 (fun w' => w'.cell? ⟨B, 1, none⟩ = some (.int .i64 (n' : Int))) (first | exact hb1 | exact hb12 | exact hb13) (first | (go_at_call 25; refine (tb_resize (by exact hP0d) hs64 n' hn').mono ?_; rintro e w2 ⟨rfl, hP2⟩; have hb12 : w2.cell? ⟨B, 1, none⟩ = some (.int .i64 (n' : Int)) := cell_of_blk hP2.lt.2.2.2.1 1 _ rfl) | (go_at_call 26; refine (tb_rresize (by exact hP2) hs64 n' hn').mono ?_; rintro e w3 ⟨rfl, hP3⟩; have hb13 : w3.cell? ⟨B, 1, none⟩ = some (.int .i64 (n' : Int)) := cell_of_blk hP3.lt.2.2.2.1 1 _ rfl))
          clear hb0 hb1 hb2 hb3 HX hP0 hP0d hP2 hb12 hb13
          have hs' := Tk.shr_sum n' l
          generalize Tk.shr n' l = l' at *
          have hs64' : Tk.sum l' ≤ 65536 := by omega
          have hP3d := hP3.drew
          obtain ⟨A9, c9, hA0, hA1⟩ := hP3d.cells
          have hX2 := hP3d.lt.2.2.2.1
          have hS0 := And.intro hA0 (And.intro hA1 (And.intro (cell_of_blk hX2 2 _ rfl) (cell_of_blk hX2 3 _ rfl)))
          clear hX2 hA0 hA1
          go_upto_region 27 with fail
          go_region_held3 (fun w' => w'.cell? ⟨bx, 0, none⟩ = some (.int .i64 ((n' : Nat) : Int)) ∧ w'.cell? ⟨bx, 1, none⟩ = some (.slice A9 ((l' : List Tk.Fd)).length c9) ∧ w'.cell? ⟨B, 2, none⟩ = some (.string s) ∧ w'.cell? ⟨B, 3, none⟩ = some (.string t)) (first | exact hS0 | exact hS5 | exact hS6 | exact hS7) (first | (go_at_call 29; refine (tb_size (by exact hP3d)).mono ?_; rintro e wq ⟨rfl, rfl⟩) | (go_at_call 30; refine (tb_rsize (by exact hP3d) (by exact hs64')).mono ?_; rintro e v5 ⟨rfl, hb5⟩; have hP5 := hP3d.below hb5; have hS5 := four hb5 hS0) | (go_at_call 31; refine (tb_most (by exact hP5)).mono ?_; rintro e wq ⟨rfl, rfl⟩) | (go_at_call 32; refine (tb_len (by exact hP5)).mono ?_; rintro e wq ⟨rfl, rfl⟩) | (go_at_call 33; refine (weight_any _ s t hfit).mono ?_; rintro e v6 ⟨rfl, hb6⟩; have hP6 := hP5.below hb6; have hS6 := four hb6 hS5) | (go_at_call 34; refine (rweight_any _ s t hfit).mono ?_; rintro e v7 ⟨rfl, hb7⟩; have hP7 := hP6.below hb7; have hS7 := four hb7 hS6))
          go_wp2
          refine ⟨⟨k + 1, n', l', by omega, by go_num, hs', hn', hP7.forget⟩, ?_⟩
          simp [intOf]
          omega
      · have hm4n : wh.tmod 4 = 2 := (Int.tmod_eq_emod_of_nonneg hw0).trans hm4
        obtain ⟨q, is, hq⟩ : ∃ q is, Tk.find (s, t) (Tk.all l) 0 0 = (q, is) := ⟨_, _, rfl⟩
        go_wp2_with fail
        refine (tb_find hP0 hs64 s t q is hq).mono ?_
        rintro e w2 ⟨rfl, hd2⟩
        have hP2 := hP0.below hd2
        clear hb0 hb1 hb2 hb3 HX hP0 hd2
        have HX := Lib.hid hP2.lt.2.2.2.1
        have hb2 : w2.cell? ⟨B, 2, none⟩ = some (.string s) := cell_of_blk HX.out 2 _ rfl
        have hb3 : w2.cell? ⟨B, 3, none⟩ = some (.string t) := cell_of_blk HX.out 3 _ rfl
        go_wp2_with fail
        refine (tb_rfind hP2 hs64 s t q is hq).mono ?_
        rintro e w3 ⟨rfl, hd3⟩
        have hP3 := hP2.below hd3
        clear hb2 hb3 HX hP2 hd3 hq
        have hP3d := hP3.drew
        obtain ⟨A9, c9, hA0, hA1⟩ := hP3d.cells
        have hX2 := hP3d.lt.2.2.2.1
        have hS0 := And.intro hA0 (And.intro hA1 (And.intro (cell_of_blk hX2 2 _ rfl) (cell_of_blk hX2 3 _ rfl)))
        clear hX2 hA0 hA1
        go_upto_region 27 with fail
        go_region_held3 (fun w' => w'.cell? ⟨bx, 0, none⟩ = some (.int .i64 ((m : Nat) : Int)) ∧ w'.cell? ⟨bx, 1, none⟩ = some (.slice A9 ((l : List Tk.Fd)).length c9) ∧ w'.cell? ⟨B, 2, none⟩ = some (.string s) ∧ w'.cell? ⟨B, 3, none⟩ = some (.string t)) (first | exact hS0 | exact hS5 | exact hS6 | exact hS7) (first | (go_at_call 29; refine (tb_size (by exact hP3d)).mono ?_; rintro e wq ⟨rfl, rfl⟩) | (go_at_call 30; refine (tb_rsize (by exact hP3d) (by exact hs64)).mono ?_; rintro e v5 ⟨rfl, hb5⟩; have hP5 := hP3d.below hb5; have hS5 := four hb5 hS0) | (go_at_call 31; refine (tb_most (by exact hP5)).mono ?_; rintro e wq ⟨rfl, rfl⟩) | (go_at_call 32; refine (tb_len (by exact hP5)).mono ?_; rintro e wq ⟨rfl, rfl⟩) | (go_at_call 33; refine (weight_any _ s t hfit).mono ?_; rintro e v6 ⟨rfl, hb6⟩; have hP6 := hP5.below hb6; have hS6 := four hb6 hS5) | (go_at_call 34; refine (rweight_any _ s t hfit).mono ?_; rintro e v7 ⟨rfl, hb7⟩; have hP7 := hP6.below hb7; have hS7 := four hb7 hS6))
        go_wp2
        refine ⟨⟨k + 1, m, l, by omega, by go_num, hs, hm, hP7.forget⟩, ?_⟩
        simp [intOf]
        omega
      · have hm4n : wh.tmod 4 = 3 := (Int.tmod_eq_emod_of_nonneg hw0).trans hm4
        obtain ⟨y, z, is, hq⟩ : ∃ y z is, Tk.at_ (Tk.all l) n = ((y, z), is) := ⟨_, _, _, rfl⟩
        go_wp2_with fail
        refine (tb_at hP0 n y z is hq hn1).mono ?_
        rintro e w2 ⟨rfl, hd2⟩
        have hP2 := hP0.below hd2
        clear hb0 hb1 hb2 hb3 HX hP0 hd2
        go_upto_region 13 with fail
        have hd3 : Below w2.heap.size w2 (w2.alloc (.cells #[.string y, .string z] 30)) := (Below.refl _ _).alloc (Nat.le_refl _) _
        have hy3 := heap_alloc_new w2 (.cells #[.string y, .string z] 30)
        have hP3 := hP2.below hd3
        clear hP2 hd3
        generalize w2.alloc (.cells #[.string y, .string z] 30) = w3 at *
        generalize w2.heap.size = B1 at *
        have HY := Lib.hid hy3
        clear hy3
        have hb1 : w3.cell? ⟨B, 1, none⟩ = some (.int .i64 n) := cell_of_blk hP3.lt.2.2.2.1 1 _ rfl
        go_wp2_with fail
        refine (tb_rat hP3 hs64 n y z is hq).mono ?_
        rintro e w4 ⟨rfl, hd4⟩
        have hP4 := hP3.below hd4
        have hy4 := (hd4.block B1 (heap_lt HY.out)).trans HY.out
        clear hd4 hP3 HY hb1
        have HY := Lib.hid hy4
        clear hy4
        go_upto_region 14 with fail
        have hd5 : Below w4.heap.size w4 (w4.alloc (.cells #[.string y, .string z] 30)) := (Below.refl _ _).alloc (Nat.le_refl _) _
        have hz5 := heap_alloc_new w4 (.cells #[.string y, .string z] 30)
        have hy5 := (hd5.block B1 (heap_lt HY.out)).trans HY.out
        have hP5 := hP4.below hd5
        clear hP4 hd5 HY
        generalize w4.alloc (.cells #[.string y, .string z] 30) = w5 at *
        generalize w4.heap.size = B2 at *
        have hc0 : w5.cell? ⟨B1, 0, none⟩ = some (.string y) := cell_of_blk hy5 0 _ rfl
        have hc1 : w5.cell? ⟨B1, 1, none⟩ = some (.string z) := cell_of_blk hy5 1 _ rfl
        have hd0 : w5.cell? ⟨B2, 0, none⟩ = some (.string y) := cell_of_blk hz5 0 _ rfl
        have hd1 : w5.cell? ⟨B2, 1, none⟩ = some (.string z) := cell_of_blk hz5 1 _ rfl
        clear hy5 hz5 hq
        have hP5d := hP5.drew
        obtain ⟨A9, c9, hA0, hA1⟩ := hP5d.cells
        have hX2 := hP5d.lt.2.2.2.1
        have hS0 := And.intro hA0 (And.intro hA1 (And.intro (cell_of_blk hX2 2 _ rfl) (cell_of_blk hX2 3 _ rfl)))
        clear hX2 hA0 hA1
        go_upto_region 27 with fail
        go_region_held3 (fun w' => w'.cell? ⟨bx, 0, none⟩ = some (.int .i64 ((m : Nat) : Int)) ∧ w'.cell? ⟨bx, 1, none⟩ = some (.slice A9 ((l : List Tk.Fd)).length c9) ∧ w'.cell? ⟨B, 2, none⟩ = some (.string s) ∧ w'.cell? ⟨B, 3, none⟩ = some (.string t)) (first | exact hS0 | exact hS5 | exact hS6 | exact hS7) (first | (go_at_call 29; refine (tb_size (by exact hP5d)).mono ?_; rintro e wq ⟨rfl, rfl⟩) | (go_at_call 30; refine (tb_rsize (by exact hP5d) (by exact hs64)).mono ?_; rintro e v5 ⟨rfl, hb5⟩; have hP5' := hP5d.below hb5; have hS5 := four hb5 hS0) | (go_at_call 31; refine (tb_most (by exact hP5')).mono ?_; rintro e wq ⟨rfl, rfl⟩) | (go_at_call 32; refine (tb_len (by exact hP5')).mono ?_; rintro e wq ⟨rfl, rfl⟩) | (go_at_call 33; refine (weight_any _ s t hfit).mono ?_; rintro e v6 ⟨rfl, hb6⟩; have hP6 := hP5'.below hb6; have hS6 := four hb6 hS5) | (go_at_call 34; refine (rweight_any _ s t hfit).mono ?_; rintro e v7 ⟨rfl, hb7⟩; have hP7 := hP6.below hb7; have hS7 := four hb7 hS6))
        go_wp2
        refine ⟨⟨k + 1, m, l, by omega, by go_num, hs, hm, hP7.forget⟩, ?_⟩
        simp [intOf]
        omega
    · obtain rfl : k = len := by omega
      clear hc
      have hB : Below b w wr := by obtain ⟨_, _, _, _, _, _, _, h⟩ := hP; exact h
      have hbs : b ≤ wr.heap.size := by obtain ⟨_, _, h, _⟩ := hP; exact Nat.le_of_lt h.lt.1
      clear hP
      go_wp2_with fail
      refine (awake_true _).mono ?_
      rintro e w5 ⟨rfl, hb5⟩
      go_wp2
      go_ret
      exact ⟨rfl, by rw [HBB.out]; exact belB hB hbs hb5⟩
end Go.Proofs.Ytjdobemljghkbaa
