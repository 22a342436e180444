/- A row is a row, whatever stands in it: walked whole. -/
import Derived.Test.YtjdobemljghkbaaRg
namespace Go.Proofs.Ytjdobemljghkbaa
open Go.RowKit
attribute [local go_sem ↓] Go.wp_at_zero Go.wp_at_succ

theorem RG.slice_ {w0 w : World} {b b2 : Nat} {li lf lo : List Int} {v : Value} (h : RG w0 b b2 li lf lo v w) : ∃ A c, v = .slice A lo.length c := by
  obtain ⟨_, _, _, _, hq, _⟩ := h
  obtain ⟨A, c, rfl⟩ := hq.slice_
  exact ⟨A, c, by rw [List.length_map]⟩
theorem RG.row {w0 w : World} {b b2 : Nat} {li lf lo : List Int} {v : Value} (h : RG w0 b b2 li lf lo v w) : QRow w (b2 + 1) 3 v (lo.map (Value.int .i64)) := by
  obtain ⟨_, _, _, _, hq, _⟩ := h
  exact hq
theorem get_cell {w : World} {base e : Nat} {A : Option Addr} {n c : Nat} {l : List Int} (h : QRow w base e (.slice A n c) (l.map (Value.int .i64))) (j : Nat) (hj : j < l.length) : ∃ x, A = some x ∧ w.cell? (x.add j) = some (.int .i64 (l.getD j 0)) := by
  obtain ⟨x, u, rfl, hu, hc⟩ := h.cells j (by simpa using hj)
  refine ⟨x, rfl, hc.trans ?_⟩
  rw [List.getElem?_map, List.getElem?_eq_getElem hj] at hu
  rw [List.getD_eq_getElem?_getD, List.getElem?_eq_getElem hj]
  exact hu.symm
theorem get_addr {w : World} {base e : Nat} {A : Option Addr} {n c : Nat} {l : List Int} (h : QRow w base e (.slice A n c) (l.map (Value.int .i64))) (hl : l ≠ []) : ∃ g o, A = some ⟨g, o, none⟩ := by
  rcases h with ⟨_, h0⟩ | ⟨g, off, cap, cur, hv, _⟩
  · exact absurd (by simpa using h0) hl
  · injection hv with hA
    exact ⟨g, off, hA⟩
theorem RG.tail {w0 w : World} {b b2 : Nat} {li lf lo : List Int} {x1 : Int} {ad : Addr} {n c : Nat} (h : RG w0 b b2 li lf (x1 :: lo) (.slice (some ad) n c) w) : RG w0 b b2 li lf lo (.slice (if c = 1 then some ad else some (ad.add 1)) (n - 1) (c - 1)) w := by
  obtain ⟨g, g2, h1, h2, h3, h4, h5, h6, h7, h8⟩ := h
  refine ⟨g, g2, h1, h2, QRow.tail h3, h4, h5, h6, fun k hk => h7 k ?_, h8⟩
  revert hk
  split
  · exact id
  · simp [Value.ownBlock, add_block]

set_option maxRecDepth 100000 in
set_option maxHeartbeats 8000000 in
theorem rings_true (w : World) (a : Option Addr) (len cap : Nat) (xs : List Int) (hrow : RowOf w a len (Value.int .i64) xs) (hlen : len ≤ 1048576) : Calls Try.prog 4 #[.slice a len cap] w fun e w' => e = .returned (.bool true) ∧ Below w.heap.size w w' := by
  go_enter Try.func4, Try.ntmps4
  go_wp2_with fail
  refine (newring_i w).mono ?_
  rintro e w1 ⟨rfl, hw1⟩
  have hR1 := ring_newi w
  rw [← hw1] at hR1
  have hB1 : Below w.heap.size w w1 := by rw [hw1]; exact (Below.refl _ _).alloc (Nat.le_refl _) _
  have hz1 : w.heap.size < w1.heap.size := by rw [hw1]; simp
  clear hw1
  go_wp2_with fail
  refine (newring_f w1).mono ?_
  rintro e w2 ⟨rfl, hw2⟩
  have hR2 := ring_newf w1
  rw [← hw2] at hR2
  have hB2 : Below w1.heap.size w1 w2 := by rw [hw2]; exact (Below.refl _ _).alloc (Nat.le_refl _) _
  have hP : RG w w.heap.size w1.heap.size [] [] [] (.slice none 0 0) w2 := ⟨none, none, hR1.below hB2, hR2, .inl ⟨rfl, rfl⟩, hz1, (fun k hk => by cases hk), (fun k hk => by cases hk), (fun k hk => by cases hk), bel2 hB1 hB2⟩
  generalize hbb : w.heap.size = b at *
  have HBB := Lib.hid hbb
  generalize w1.heap.size = b2 at *
  clear hbb hB1 hB2 hw2 hR1 hR2 hz1
  go_wp2
  go_loopw [5, 6] (fun v5 i6 wr => ∃ (k : Nat) (l : List Int), k ≤ len ∧ i6 = .int .i64 (k : Int) ∧ l.length ≤ k ∧ RG w b b2 l l l v5 wr) (fun _ i6 _ => len - (intOf i6).toNat)
  case atStart => exact ⟨0, [], Nat.zero_le _, rfl, Nat.zero_le _, hP⟩
  case round =>
    clear hP
    obtain ⟨wz, rfl⟩ : ∃ wz, wz = wr := ⟨wr, rfl⟩
    obtain ⟨k, l, hk, rfl, hlk, hP⟩ := hrel
    have hl2 : l.length ≤ 2000000 := by omega
    obtain ⟨A, c, rfl⟩ := hP.slice_
    by_cases hlt : k < len
    · have hrl := hrow.1
      obtain ⟨x0, rfl, hxb, hxc⟩ := hrow.2 k (by omega)
      rw [HBB.out] at hxb
      have hxc' := (hP.forget.2.cell (p := x0.add k) (by rw [add_block]; exact hxb)).trans hxc
      generalize xs[k]'(by omega) = x at hxc hxc'
      have HR := Lib.hid hrow
      clear hrow hxc hxb hrl
      have hkc : (0 : Int) ≤ (k : Int) := by omega
      by_cases h3 : x.tmod 3 = 0
      · by_cases hL0 : l.length = 0
        · have hP' : RG w b b2 [] [] l (.slice A l.length c) wz := by have e := List.eq_nil_of_length_eq_zero hL0; rw [e] at hP ⊢; exact hP
          have hLI : ¬ (0 : Int) < (l.length : Int) := by omega
          have hLD : decide ((0 : Int) < (l.length : Int)) = false := decide_eq_false hLI
          have hLN : decide (0 < l.length) = false := decide_eq_false (by omega)
          have HL0 := Lib.hid hL0
          clear hL0
          go_wp2_with fail
          refine (g_popi0 hP').mono ?_
          rintro e wq ⟨rfl, rfl⟩
          go_wp2_with fail
          refine (g_popf0 hP').mono ?_
          rintro e v2 ⟨rfl, hd2⟩
          have hP2 := hP.below hd2
          clear hP hP' hd2 hxc'
          go_upto_region 13 with fail
          have hP3 := hP2.below (w' := v2.alloc (.cells #[.string ⟨#[]⟩, .string ⟨#[]⟩] 30)) ((Below.refl _ _).alloc (Nat.le_refl _) _)
          have hy3 := heap_alloc_new v2 (.cells #[.string ⟨#[]⟩, .string ⟨#[]⟩] 30)
          clear hP2
          generalize v2.alloc (.cells #[.string ⟨#[]⟩, .string ⟨#[]⟩] 30) = v3 at *
          generalize v2.heap.size = B1 at *
          have hc0 : v3.cell? ⟨B1, 0, none⟩ = some (.string ⟨#[]⟩) := cell_of_blk hy3 0 _ rfl
          have hc1 : v3.cell? ⟨B1, 1, none⟩ = some (.string ⟨#[]⟩) := cell_of_blk hy3 1 _ rfl
          clear hy3
          go_upto_region 21 with fail
          clear hLI hLD hLN hc0 hc1
          go_loopw [12] (fun i12 wr => ∃ j : Nat, j ≤ (l).length + 2 ∧ i12 = .int .i64 ((j : Int) - 1) ∧ RG w b b2 (l) (l) (l) (.slice (A) (l).length (c)) wr) (fun i12 _ => (l).length + 2 - (intOf i12 + 1).toNat)
          case atStart => exact ⟨0, Nat.zero_le _, rfl, hP3⟩
          case round =>
            clear hP3
            obtain ⟨j, hj, rfl, hQ⟩ := hrel
            obtain ⟨q, hq⟩ : ∃ q : Int, q = (j : Int) - 1 := ⟨_, rfl⟩
            rw [← hq]
            have HQ := Lib.hid hq
            by_cases hqL : q ≤ (((l).length : Nat) : Int)
            · have hwq : IntKind.i64.wrap (q + 1) = ((j + 1 : Nat) : Int) - 1 := by rw [IntWalk.i64_in _ (by omega)]; omega
              clear hq
              by_cases h0 : q < 0
              · go_wp2_with fail
                refine (g_atout hQ q (.inl h0)).mono ?_
                rintro e wq ⟨rfl, rfl⟩
                have h0' : ¬ (0 : Int) ≤ q := by omega
                go_wp2
                refine ⟨⟨j + 1, by have := HQ.out; omega, ?_, hQ⟩, ?_⟩
                · first | rfl | (rw [hwq]) | (congr 1; omega)
                · have hq := HQ.out
                  simp only [intOf, hwq]
                  omega
              · obtain ⟨i, rfl⟩ := Int.eq_ofNat_of_zero_le (show 0 ≤ q by omega)
                have h0' : (0 : Int) ≤ (i : Int) := by omega
                by_cases hi : i < (l).length
                · obtain ⟨p, hp⟩ : ∃ p, p + i + 1 = (l).length := ⟨(l).length - 1 - i, by omega⟩
                  go_wp2_with fail
                  refine (g_atin hQ i hi p hp).mono ?_
                  rintro e v2 ⟨rfl, hQ2⟩
                  obtain ⟨ad, hA, hcp⟩ := get_cell hQ2.row p (by omega)
                  first | (injection hA with hA; subst hA) | subst hA
                  try rw [Addr.add_mid] at hcp
                  have hiI : (i : Int) < (((l).length : Nat) : Int) := by omega
                  have hw1 : IntKind.i64.wrap ((((l).length : Nat) : Int) - 1) = ((p + i : Nat) : Int) := by rw [IntWalk.i64_in _ (by omega)]; omega
                  have hw2 : IntKind.i64.wrap (((p + i : Nat) : Int) - (i : Int)) = (p : Int) := by rw [IntWalk.i64_in _ (by omega)]; omega
                  have hpI : (p : Int) < (((l).length : Nat) : Int) := by omega
                  have hp0 : (0 : Int) ≤ (p : Int) := by omega
                  generalize (l).getD p 0 = y at *
                  go_wp2
                  refine ⟨⟨j + 1, by have := HQ.out; omega, ?_, hQ2⟩, ?_⟩
                  · first | rfl | (rw [hwq]) | (congr 1; omega)
                  · have hq := HQ.out
                    simp only [intOf, hwq]
                    omega
                · go_wp2_with fail
                  refine (g_atout hQ _ (.inr (by omega))).mono ?_
                  rintro e wq ⟨rfl, rfl⟩
                  have hiI : ¬ (i : Int) < (((l).length : Nat) : Int) := by omega
                  go_wp2
                  refine ⟨⟨j + 1, by have := HQ.out; omega, ?_, hQ⟩, ?_⟩
                  · first | rfl | (rw [hwq]) | (congr 1; omega)
                  · have hq := HQ.out
                    simp only [intOf, hwq]
                    omega
            · go_wp2_with fail
              refine (g_leni hQ).mono ?_
              rintro e wq ⟨rfl, rfl⟩
              go_wp2_with fail
              refine (g_lenf hQ).mono ?_
              rintro e wq ⟨rfl, rfl⟩
              go_wp2
              refine ⟨⟨k + 1, l, by omega, by go_num, by omega, hQ⟩, ?_⟩
              simp [intOf]
              omega
        · obtain ⟨x1, l, rfl⟩ : ∃ x1 l', l = x1 :: l' := by
            cases l with
            | nil => exact absurd rfl hL0
            | cons y l' => exact ⟨y, l', rfl⟩
          clear hL0
          obtain ⟨L, hL⟩ : ∃ L, (x1 :: l).length = L := ⟨_, rfl⟩
          have hL1 : L = l.length + 1 := hL.symm
          have hLle : L ≤ 2000000 := by omega
          rw [hL] at hP ⊢
          have HL1 := Lib.hid hL1
          obtain ⟨ab, ao, rfl⟩ := get_addr hP.row (by simp)
          have hg1 : l.length ≤ 2000000 := by omega
          have hL0 : (0 : Int) < (L : Int) := by omega
          have hLD : decide ((0 : Int) < (L : Int)) = true := decide_eq_true hL0
          have hLN : decide (0 < L) = true := decide_eq_true (by omega)
          have hkl : l.length ≤ k := by omega
          clear hL hL1 hlk
          go_wp2_with fail
          refine (g_popi hP hg1).mono ?_
          rintro e v2 ⟨rfl, hP2⟩
          go_wp2_with fail
          refine (g_popf hP2 hg1).mono ?_
          rintro e v3 ⟨rfl, hP3⟩
          have hand := i64_and63 x1
          generalize (x1 % 64).toNat = n at *
          have hzs := zs_size n
          clear hP hP2 hxc'
          go_upto_region 13 with fail
          have hP4 := hP3.below (w' := v3.alloc (.cells #[.string (zs n), .string ⟨#[]⟩] 30)) ((Below.refl _ _).alloc (Nat.le_refl _) _)
          have hy3 := heap_alloc_new v3 (.cells #[.string (zs n), .string ⟨#[]⟩] 30)
          clear hP3
          generalize v3.alloc (.cells #[.string (zs n), .string ⟨#[]⟩] 30) = v4 at *
          generalize v3.heap.size = B1 at *
          have hc0 : v4.cell? ⟨B1, 0, none⟩ = some (.string (zs n)) := cell_of_blk hy3 0 _ rfl
          have hc1 : v4.cell? ⟨B1, 1, none⟩ = some (.string ⟨#[]⟩) := cell_of_blk hy3 1 _ rfl
          have hca : v4.cell? ⟨ab, ao, none⟩ = some (.int .i64 x1) := by
            obtain ⟨ad', hA, hx⟩ := get_cell hP4.row 0 (by simp)
            injection hA with hA
            subst hA
            rw [Addr.add_mid] at hx
            exact hx
          have htl := hP4.tail
          rw [Addr.add_mid] at htl
          clear hy3 hP4
          by_cases hc1c : c = 1
          · subst hc1c
            simp only [if_true] at htl
            go_upto_region 20 with fail
            have hM : L - 1 = l.length := by have := HL1.out; omega
            rw [hM] at htl ⊢
            clear hM
            go_upto_region 21 with fail
            clear hL0 hLD hLN hc0 hc1 hca hand hzs HL1
            go_loopw [12] (fun i12 wr => ∃ j : Nat, j ≤ (l).length + 2 ∧ i12 = .int .i64 ((j : Int) - 1) ∧ RG w b b2 (l) (l) (l) (.slice (some ⟨ab, ao, none⟩) (l).length (1 - 1)) wr) (fun i12 _ => (l).length + 2 - (intOf i12 + 1).toNat)
            case atStart => exact ⟨0, Nat.zero_le _, rfl, htl⟩
            case round =>
              clear htl
              obtain ⟨j, hj, rfl, hQ⟩ := hrel
              obtain ⟨q, hq⟩ : ∃ q : Int, q = (j : Int) - 1 := ⟨_, rfl⟩
              rw [← hq]
              have HQ := Lib.hid hq
              by_cases hqL : q ≤ (((l).length : Nat) : Int)
              · have hwq : IntKind.i64.wrap (q + 1) = ((j + 1 : Nat) : Int) - 1 := by rw [IntWalk.i64_in _ (by omega)]; omega
                clear hq
                by_cases h0 : q < 0
                · go_wp2_with fail
                  refine (g_atout hQ q (.inl h0)).mono ?_
                  rintro e wq ⟨rfl, rfl⟩
                  have h0' : ¬ (0 : Int) ≤ q := by omega
                  go_wp2
                  refine ⟨⟨j + 1, by have := HQ.out; omega, ?_, hQ⟩, ?_⟩
                  · first | rfl | (rw [hwq]) | (congr 1; omega)
                  · have hq := HQ.out
                    simp only [intOf, hwq]
                    omega
                · obtain ⟨i, rfl⟩ := Int.eq_ofNat_of_zero_le (show 0 ≤ q by omega)
                  have h0' : (0 : Int) ≤ (i : Int) := by omega
                  by_cases hi : i < (l).length
                  · obtain ⟨p, hp⟩ : ∃ p, p + i + 1 = (l).length := ⟨(l).length - 1 - i, by omega⟩
                    go_wp2_with fail
                    refine (g_atin hQ i hi p hp).mono ?_
                    rintro e v2 ⟨rfl, hQ2⟩
                    obtain ⟨ad, hA, hcp⟩ := get_cell hQ2.row p (by omega)
                    first | (injection hA with hA; subst hA) | subst hA
                    try rw [Addr.add_mid] at hcp
                    have hiI : (i : Int) < (((l).length : Nat) : Int) := by omega
                    have hw1 : IntKind.i64.wrap ((((l).length : Nat) : Int) - 1) = ((p + i : Nat) : Int) := by rw [IntWalk.i64_in _ (by omega)]; omega
                    have hw2 : IntKind.i64.wrap (((p + i : Nat) : Int) - (i : Int)) = (p : Int) := by rw [IntWalk.i64_in _ (by omega)]; omega
                    have hpI : (p : Int) < (((l).length : Nat) : Int) := by omega
                    have hp0 : (0 : Int) ≤ (p : Int) := by omega
                    generalize (l).getD p 0 = y at *
                    go_wp2
                    refine ⟨⟨j + 1, by have := HQ.out; omega, ?_, hQ2⟩, ?_⟩
                    · first | rfl | (rw [hwq]) | (congr 1; omega)
                    · have hq := HQ.out
                      simp only [intOf, hwq]
                      omega
                  · go_wp2_with fail
                    refine (g_atout hQ _ (.inr (by omega))).mono ?_
                    rintro e wq ⟨rfl, rfl⟩
                    have hiI : ¬ (i : Int) < (((l).length : Nat) : Int) := by omega
                    go_wp2
                    refine ⟨⟨j + 1, by have := HQ.out; omega, ?_, hQ⟩, ?_⟩
                    · first | rfl | (rw [hwq]) | (congr 1; omega)
                    · have hq := HQ.out
                      simp only [intOf, hwq]
                      omega
              · go_wp2_with fail
                refine (g_leni hQ).mono ?_
                rintro e wq ⟨rfl, rfl⟩
                go_wp2_with fail
                refine (g_lenf hQ).mono ?_
                rintro e wq ⟨rfl, rfl⟩
                go_wp2
                refine ⟨⟨k + 1, l, by omega, by go_num, by omega, hQ⟩, ?_⟩
                simp [intOf]
                omega
          · rw [if_neg hc1c] at htl
            go_upto_region 20 with fail
            have hM : L - 1 = l.length := by have := HL1.out; omega
            rw [hM] at htl ⊢
            clear hM
            go_upto_region 21 with fail
            clear hL0 hLD hLN hc0 hc1 hca hand hzs HL1
            go_loopw [12] (fun i12 wr => ∃ j : Nat, j ≤ (l).length + 2 ∧ i12 = .int .i64 ((j : Int) - 1) ∧ RG w b b2 (l) (l) (l) (.slice (some ⟨ab, ao + 1, none⟩) (l).length (c - 1)) wr) (fun i12 _ => (l).length + 2 - (intOf i12 + 1).toNat)
            case atStart => exact ⟨0, Nat.zero_le _, rfl, htl⟩
            case round =>
              clear htl
              obtain ⟨j, hj, rfl, hQ⟩ := hrel
              obtain ⟨q, hq⟩ : ∃ q : Int, q = (j : Int) - 1 := ⟨_, rfl⟩
              rw [← hq]
              have HQ := Lib.hid hq
              by_cases hqL : q ≤ (((l).length : Nat) : Int)
              · have hwq : IntKind.i64.wrap (q + 1) = ((j + 1 : Nat) : Int) - 1 := by rw [IntWalk.i64_in _ (by omega)]; omega
                clear hq
                by_cases h0 : q < 0
                · go_wp2_with fail
                  refine (g_atout hQ q (.inl h0)).mono ?_
                  rintro e wq ⟨rfl, rfl⟩
                  have h0' : ¬ (0 : Int) ≤ q := by omega
                  go_wp2
                  refine ⟨⟨j + 1, by have := HQ.out; omega, ?_, hQ⟩, ?_⟩
                  · first | rfl | (rw [hwq]) | (congr 1; omega)
                  · have hq := HQ.out
                    simp only [intOf, hwq]
                    omega
                · obtain ⟨i, rfl⟩ := Int.eq_ofNat_of_zero_le (show 0 ≤ q by omega)
                  have h0' : (0 : Int) ≤ (i : Int) := by omega
                  by_cases hi : i < (l).length
                  · obtain ⟨p, hp⟩ : ∃ p, p + i + 1 = (l).length := ⟨(l).length - 1 - i, by omega⟩
                    go_wp2_with fail
                    refine (g_atin hQ i hi p hp).mono ?_
                    rintro e v2 ⟨rfl, hQ2⟩
                    obtain ⟨ad, hA, hcp⟩ := get_cell hQ2.row p (by omega)
                    first | (injection hA with hA; subst hA) | subst hA
                    try rw [Addr.add_mid] at hcp
                    have hiI : (i : Int) < (((l).length : Nat) : Int) := by omega
                    have hw1 : IntKind.i64.wrap ((((l).length : Nat) : Int) - 1) = ((p + i : Nat) : Int) := by rw [IntWalk.i64_in _ (by omega)]; omega
                    have hw2 : IntKind.i64.wrap (((p + i : Nat) : Int) - (i : Int)) = (p : Int) := by rw [IntWalk.i64_in _ (by omega)]; omega
                    have hpI : (p : Int) < (((l).length : Nat) : Int) := by omega
                    have hp0 : (0 : Int) ≤ (p : Int) := by omega
                    generalize (l).getD p 0 = y at *
                    go_wp2
                    refine ⟨⟨j + 1, by have := HQ.out; omega, ?_, hQ2⟩, ?_⟩
                    · first | rfl | (rw [hwq]) | (congr 1; omega)
                    · have hq := HQ.out
                      simp only [intOf, hwq]
                      omega
                  · go_wp2_with fail
                    refine (g_atout hQ _ (.inr (by omega))).mono ?_
                    rintro e wq ⟨rfl, rfl⟩
                    have hiI : ¬ (i : Int) < (((l).length : Nat) : Int) := by omega
                    go_wp2
                    refine ⟨⟨j + 1, by have := HQ.out; omega, ?_, hQ⟩, ?_⟩
                    · first | rfl | (rw [hwq]) | (congr 1; omega)
                    · have hq := HQ.out
                      simp only [intOf, hwq]
                      omega
              · go_wp2_with fail
                refine (g_leni hQ).mono ?_
                rintro e wq ⟨rfl, rfl⟩
                go_wp2_with fail
                refine (g_lenf hQ).mono ?_
                rintro e wq ⟨rfl, rfl⟩
                go_wp2
                refine ⟨⟨k + 1, l, by omega, by go_num, by omega, hQ⟩, ?_⟩
                simp [intOf]
                omega
      · have hand := i64_and63 x
        obtain ⟨n, hn⟩ : ∃ n, n = (x % 64).toNat := ⟨_, rfl⟩
        rw [← hn] at hand
        have hmk := fun w => run_make_z n (by omega) w
        have htx := fun w => run_text_z n w
        have HN := Lib.hid hn
        clear hn
        go_wp2_with fail
        refine (g_pushi hP hl2 x).mono ?_
        rintro e v2 ⟨rfl, hP2⟩
        clear hxc'
        go_wp2_with fail
        have hP3 := hP2.below (w' := v2.alloc (.cells (madeCells #[.int .u8 0] n) 5)) ((Below.refl _ _).alloc (Nat.le_refl _) _)
        clear hP2 hmk htx hand hP
        generalize v2.alloc (.cells (madeCells #[.int .u8 0] n) 5) = v3 at *
        refine (field_any v3 (zs n) ⟨#[]⟩).mono ?_
        rintro e v4 ⟨rfl, hb4⟩
        have hP4 := hP3.below hb4
        clear hP3 hb4
        go_wp2_with fail
        refine (g_pushf hP4 hl2 x n HN.out).mono ?_
        rintro e v5 ⟨rfl, hP5⟩
        have hsz : b2 + 1 ≤ v5.heap.size := by obtain ⟨_, _, _, h2, _⟩ := hP5; exact h2.lt.1
        have hl6 : (l ++ [x]).length ≤ k + 1 := by simp only [List.length_append, List.length_cons, List.length_nil]; omega
        clear hP4
        go_upto_region 20 with (at_builtin; go_must (refine wpList_qpush (b2 + 1) (by rfl) _ _ 35 3 (.int .i64 0) 8 (by rfl) Try.underlying35 info_i rfl (.slice A l.length c) (l.map (Value.int .i64)) (.int .i64 x) (by rfl) (by rfl) rfl hP5.row hsz (by rw [List.length_map]; unfold maxLen; omega) (by rw [List.length_map]; omega) ?_; intro v1 w6 hq6 hg6 hv6; have hP6 := hP5.grown (by rw [List.map_append]; exact hq6) hg6 hv6; clear hP5 hq6 hg6 hv6; generalize l ++ [x] = l6 at *; obtain ⟨A6, c6, rfl⟩ := hP6.slice_))
        go_upto_region 21 with fail
        clear hsz
        go_loopw [12] (fun i12 wr => ∃ j : Nat, j ≤ (l6).length + 2 ∧ i12 = .int .i64 ((j : Int) - 1) ∧ RG w b b2 (l6) (l6) (l6) (.slice (A6) (l6).length (c6)) wr) (fun i12 _ => (l6).length + 2 - (intOf i12 + 1).toNat)
        case atStart => exact ⟨0, Nat.zero_le _, rfl, hP6⟩
        case round =>
          clear hP6
          obtain ⟨j, hj, rfl, hQ⟩ := hrel
          obtain ⟨q, hq⟩ : ∃ q : Int, q = (j : Int) - 1 := ⟨_, rfl⟩
          rw [← hq]
          have HQ := Lib.hid hq
          by_cases hqL : q ≤ (((l6).length : Nat) : Int)
          · have hwq : IntKind.i64.wrap (q + 1) = ((j + 1 : Nat) : Int) - 1 := by rw [IntWalk.i64_in _ (by omega)]; omega
            clear hq
            by_cases h0 : q < 0
            · go_wp2_with fail
              refine (g_atout hQ q (.inl h0)).mono ?_
              rintro e wq ⟨rfl, rfl⟩
              have h0' : ¬ (0 : Int) ≤ q := by omega
              go_wp2
              refine ⟨⟨j + 1, by have := HQ.out; omega, ?_, hQ⟩, ?_⟩
              · first | rfl | (rw [hwq]) | (congr 1; omega)
              · have hq := HQ.out
                simp only [intOf, hwq]
                omega
            · obtain ⟨i, rfl⟩ := Int.eq_ofNat_of_zero_le (show 0 ≤ q by omega)
              have h0' : (0 : Int) ≤ (i : Int) := by omega
              by_cases hi : i < (l6).length
              · obtain ⟨p, hp⟩ : ∃ p, p + i + 1 = (l6).length := ⟨(l6).length - 1 - i, by omega⟩
                go_wp2_with fail
                refine (g_atin hQ i hi p hp).mono ?_
                rintro e v2 ⟨rfl, hQ2⟩
                obtain ⟨ad, hA, hcp⟩ := get_cell hQ2.row p (by omega)
                first | (injection hA with hA; subst hA) | subst hA
                try rw [Addr.add_mid] at hcp
                have hiI : (i : Int) < (((l6).length : Nat) : Int) := by omega
                have hw1 : IntKind.i64.wrap ((((l6).length : Nat) : Int) - 1) = ((p + i : Nat) : Int) := by rw [IntWalk.i64_in _ (by omega)]; omega
                have hw2 : IntKind.i64.wrap (((p + i : Nat) : Int) - (i : Int)) = (p : Int) := by rw [IntWalk.i64_in _ (by omega)]; omega
                have hpI : (p : Int) < (((l6).length : Nat) : Int) := by omega
                have hp0 : (0 : Int) ≤ (p : Int) := by omega
                generalize (l6).getD p 0 = y at *
                go_wp2
                refine ⟨⟨j + 1, by have := HQ.out; omega, ?_, hQ2⟩, ?_⟩
                · first | rfl | (rw [hwq]) | (congr 1; omega)
                · have hq := HQ.out
                  simp only [intOf, hwq]
                  omega
              · go_wp2_with fail
                refine (g_atout hQ _ (.inr (by omega))).mono ?_
                rintro e wq ⟨rfl, rfl⟩
                have hiI : ¬ (i : Int) < (((l6).length : Nat) : Int) := by omega
                go_wp2
                refine ⟨⟨j + 1, by have := HQ.out; omega, ?_, hQ⟩, ?_⟩
                · first | rfl | (rw [hwq]) | (congr 1; omega)
                · have hq := HQ.out
                  simp only [intOf, hwq]
                  omega
          · go_wp2_with fail
            refine (g_leni hQ).mono ?_
            rintro e wq ⟨rfl, rfl⟩
            go_wp2_with fail
            refine (g_lenf hQ).mono ?_
            rintro e wq ⟨rfl, rfl⟩
            go_wp2
            refine ⟨⟨k + 1, l6, by omega, by go_num, by omega, hQ⟩, ?_⟩
            simp [intOf]
            omega
    · obtain rfl : k = len := by omega
      clear hrow
      have hB := hP.forget
      clear hP
      go_wp2_with fail
      refine (awake_true _).mono ?_
      rintro e w5 ⟨rfl, hb5⟩
      go_wp2
      go_ret
      exact ⟨rfl, by rw [HBB.out]; exact belB hB.2 hB.1 hb5⟩
end Go.Proofs.Ytjdobemljghkbaa
