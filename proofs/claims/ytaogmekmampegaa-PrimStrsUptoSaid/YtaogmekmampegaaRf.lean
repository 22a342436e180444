/- The reference's Decode, walked: it reads as the plain law does. -/
import Derived.Test.YtaogmekmampegaaRe
import Derived.Test.YtaogmekmampegaaHd
namespace Go.Proofs.Ytaogmekmampegaa
open Go.RowKit
attribute [local go_sem ↓] Go.wp_at_zero Go.wp_at_succ

theorem Hf.start_zero : Hf.start 0 = 0 := by decide +kernel
theorem Hf.start_le : ∀ n, n < 31 → Hf.start n ≤ 253 := by decide +kernel
theorem Hf.start_mono (a b : Nat) (h : a ≤ b) (hb : b ≤ 31) : Hf.start a ≤ Hf.start b := by
  obtain ⟨d, rfl⟩ : ∃ d, b = a + d := ⟨b - a, by omega⟩
  clear h
  induction d with
  | zero => exact Nat.le_refl _
  | succ d ih =>
    have := ih (by omega)
    have := Hf.start_succ (a + d) (by omega)
    rw [← Nat.add_assoc]
    omega
/-- Where a place lies. -/
theorem Hf.below_start (n a : Nat) (hn : n < 31) (ha : a < Hf.start n) : Hf.len (Hf.ord.getD a 0) < n := by
  have h0 := Hf.start_le n hn
  obtain ⟨h1, h2, h3⟩ := Hf.len_ord a (by omega)
  rcases Nat.lt_or_ge (Hf.len (Hf.ord.getD a 0)) n with h | h
  · exact h
  · have h4 := Hf.start_mono n _ h (by have := (Hf.len_bd _ h1).2; omega)
    omega
theorem Hf.from_start (n a : Nat) (hn : n < 31) (ha : Hf.start n ≤ a) (h257 : a < 257) : n ≤ Hf.len (Hf.ord.getD a 0) := by
  obtain ⟨h1, h2, h3⟩ := Hf.len_ord a h257
  rcases Nat.lt_or_ge (Hf.len (Hf.ord.getD a 0)) n with h | h
  · have h4 := Hf.start_mono _ n (show Hf.len (Hf.ord.getD a 0) + 1 ≤ n by omega) (by omega)
    omega
  · exact h
theorem Hf.ord_hav (n t : Nat) (hn : n < 31) (ht : t < (Hf.hav n).length) : Hf.ord.getD (Hf.start n + t) 0 = (Hf.hav n).getD t 0 := by
  rw [List.getD_eq_getElem?_getD, Hf.ord_at n hn t ht, List.getD_eq_getElem?_getD]
theorem cds_cells {w : World} {x0 x1 x2 : Addr} {c0 c1 c2 : Nat} (h : Cds w (.slice (some x0) 257 c0) (.slice (some x1) 257 c1) (.slice (some x2) 257 c2)) :
    (∀ k, k < 257 → w.cell? (x0.add k) = some (.int .i64 (Hf.ord.getD k 0 : Nat)) ∧ w.cell? (x1.add k) = some (.int .i64 (Hf.len (Hf.ord.getD k 0) : Nat)) ∧ w.cell? (x2.add k) = some (.int .i64 (Hf.code (Hf.ord.getD k 0) : Nat))) ∧ x0.block < w.heap.size ∧ x1.block < w.heap.size ∧ x2.block < w.heap.size := by
  obtain ⟨y0, y1, y2, d0, d1, d2, e0, e1, e2, hk⟩ := h
  injection e0 with e0 e0' e0''
  injection e0 with e0
  injection e1 with e1 e1' e1''
  injection e1 with e1
  injection e2 with e2 e2' e2''
  injection e2 with e2
  subst e0; subst e1; subst e2
  obtain ⟨h0, h1, h2⟩ := hk 0 (by omega)
  have b0 := World.block_lt_of_cell? w _ h0
  have b1 := World.block_lt_of_cell? w _ h1
  have b2 := World.block_lt_of_cell? w _ h2
  rw [add_block] at b0 b1 b2
  exact ⟨hk, b0, b1, b2⟩
theorem ones_step (vv nn bt : Nat) (_hv : vv < 2 ^ nn) (hb : bt < 2) : decide (2 * vv + bt = 2 ^ (nn + 1) - 1) = (decide (vv = 2 ^ nn - 1) && decide (bt = 1)) := by
  have h1 : 2 ^ (nn + 1) = 2 * 2 ^ nn := by rw [Nat.pow_succ, Nat.mul_comm]
  rw [h1]
  have h2 := Nat.two_pow_pos nn
  generalize 2 ^ nn = p at *
  rw [Bool.eq_iff_iff]
  simp
  omega

set_option maxRecDepth 100000 in
set_option maxHeartbeats 4000000 in
theorem refDecode_any (s : ByteArray) (most : Int) (w : World) (hs : s.size ≤ 17592186044416) :
    Calls Try.prog 24 #[.string s, .int .i64 most] w fun e w' => e = .returned (.tuple #[.string (strN (Hf.decode (nats s) (max most 0).toNat).1), .int .i64 ((Hf.decode (nats s) (max most 0).toNat).2 : Nat)]) ∧ Below w.heap.size w w' := by
  go_enter Try.func24, Try.ntmps24
  go_wp2_with fail
  refine (refCodes_any _).mono ?_
  rintro e w1 ⟨v0, v1, v2, rfl, hcd, hb1⟩
  have hcd0 := hcd
  obtain ⟨x0, x1, x2, c0, c1, c2, rfl, rfl, rfl, hk⟩ := hcd
  obtain ⟨_, hx0b, hx1b, hx2b⟩ := cds_cells hcd0
  have hsI : (s.size : Int) ≤ 17592186044416 := by omega
  go_wp2
  have hB0 : Below w1.heap.size w1 (w1.alloc (.cells #[.slice (some x0) 257 c0, .slice (some x1) 257 c1, .slice (some x2) 257 c2] 59)) := (Below.refl _ _).alloc (Nat.le_refl _) _
  have hcd1 := (cds_cells (cds_below hcd0 hB0)).1
  have hbl0 := heap_alloc_new w1 (.cells #[.slice (some x0) 257 c0, .slice (some x1) 257 c1, .slice (some x2) 257 c2] 59)
  have hsz0 : (w1.alloc (.cells #[.slice (some x0) 257 c0, .slice (some x1) 257 c1, .slice (some x2) 257 c2] 59)).heap.size = w1.heap.size + 1 := by simp
  have HSZ := Lib.hid hsz0
  have HC := Lib.hid hcd1
  clear hk hcd0 hsz0 hcd1
  generalize w1.alloc (.cells #[.slice (some x0) 257 c0, .slice (some x1) 257 c1, .slice (some x2) 257 c2] 59) = w2 at *
  have hbw : w.heap.size ≤ w1.heap.size := hb1.size
  have hB2 : Below w.heap.size w w2 := hb1.trans (hB0.mono hbw)
  generalize hb : w1.heap.size = b at *
  have HBL := Lib.hid hbl0
  clear hb hb1 hB0 hbl0
  have hlb := bits_at (nats s)
  rw [nats_length] at hlb
  have HLB := Lib.hid hlb
  clear hlb
  generalize hmm : (max most 0).toNat = m
  have HM := Lib.hid hmm
  clear hmm
  go_loopw [7, 8, 9, 10, 11, 12] (fun o v n on a i wr => ∃ (k nn vv : Nat) (out : List Nat), k ≤ 8 * s.size ∧ i = .int .i64 (k : Int) ∧ v = .int .i64 (vv : Int) ∧ n = .int .i64 (nn : Int) ∧ on = .bool (decide (vv = 2 ^ nn - 1)) ∧ a = .int .i64 (Hf.start nn : Nat) ∧ wr.ownsRow (b + 1) 5 1 o out.length (u8s out) ∧ Hf.dec m ((Hf.bits (nats s)).take k) [] 0 0 = .inl (out, nn, vv) ∧ Hf.Inv nn vv ∧ Hf.Byte out ∧ out.length ≤ k ∧ Below (b + 1) w2 wr) (fun _ _ _ _ _ i _ => 8 * s.size - (intOf i).toNat)
  case atStart => exact ⟨0, 0, 0, [], by omega, rfl, rfl, rfl, rfl, (by rw [Hf.start_zero]; rfl), World.ownsRow_nil _ _ _ _, rfl, Hf.Inv.zero, (fun x hx => by cases hx), Nat.le_refl _, Below.refl _ _⟩
  case round =>
    obtain ⟨k, nn, vv, out, hk, rfl, rfl, rfl, rfl, rfl, hown, hdec, hinv, hbyte, hol, hBr⟩ := hrel
    obtain ⟨A, c, rfl⟩ := own_slice hown
    by_cases hlt : k < 8 * s.size
    · have hix := run_index_nat Try.prog 9 Try.underlying9 s (k / 8) (by omega)
      have hbit := HLB.out k hlt
      have h7 : ((nats s).getD (k / 8) 0) < 256 := by
        rw [List.getD_eq_getElem?_getD, List.getElem?_eq_getElem (by rw [nats_length]; omega)]
        exact nats_byte s _ (List.getElem_mem _)
      generalize hby : (nats s).getD (k / 8) 0 = by1 at hix hbit h7
      have hh := hinv.short
      have hv0 := hinv.hi
      have hvv : (vv : Int) ≤ 1073741823 := by
        have : 2 ^ nn ≤ 2 ^ 30 := Nat.pow_le_pow_right (by omega) (by omega)
        omega
      have hkq : IntKind.i64.wrap ((k : Int) / 8) = ((k / 8 : Nat) : Int) := IntWalk.i64_in _ (by omega)
      have hkr : (k : Int).tmod 8 = ((k % 8 : Nat) : Int) := by rw [Int.tmod_eq_emod_of_nonneg (by omega)]; rfl
      have hkr2 : (k : Int) % 8 = ((k % 8 : Nat) : Int) := by omega
      have hr7 : IntKind.i64.wrap (7 - ((k % 8 : Nat) : Int)) = ((7 - k % 8 : Nat) : Int) := by
        rw [IntWalk.i64_in _ (by omega)]; omega
      have hd7 : 7 - k % 8 ≤ 7 := by omega
      have hbt : by1 / 2 ^ (7 - k % 8) % 2 < 2 := Nat.mod_lt _ (by omega)
      have hw7 : IntKind.i64.wrap (by1 : Int) = (by1 : Int) := IntWalk.i64_in _ (by omega)
      generalize k / 8 = q at hkq hix
      generalize k % 8 = r at hkr hkr2 hr7 hbit hd7 hbt
      generalize 7 - r = d at hr7 hbit hd7 hbt
      have hdst : Hf.dec m ((Hf.bits (nats s)).take (k + 1)) [] 0 0 = Hf.dec m [by1 / 2 ^ d % 2] out nn vv := by
        rw [List.take_add_one, hbit, Hf.dec_append, hdec]; rfl
      have hfi := fun bt => hinv.first (b := bt)
      have hdsum : (nn : Int) + 1 ≤ 30 := by omega
      have hkI : (k : Int) < 8 * (s.size : Int) := by omega
      have hn1 : nn + 1 < 31 := by omega
      have honst := ones_step vv nn (by1 / 2 ^ d % 2) hv0 hbt
      have hstm : Hf.start nn ≤ Hf.start (nn + 1) := Hf.start_mono _ _ (by omega) (by omega)
      have HFI := Lib.hid hfi
      have HD := Lib.hid hdec
      have HI := Lib.hid hinv
      have HDS := Lib.hid hdst
      have HB := Lib.hid hbt
      have HS8 := Lib.hid hs
      have HON := Lib.hid honst
      have HOL := Lib.hid hol
      have HBY := Lib.hid hbyte
      have HD7 := Lib.hid hd7
      have HB7 := Lib.hid h7
      clear hdec hinv hdst hbt hbit hs hv0 h7 hfi honst hol hbyte hd7 hby
      generalize hon : decide (vv = 2 ^ nn - 1) = on at *
      clear hon
      go_wp2
      go_loop [13, 14] (fun x j => ∃ q : Nat, q ≤ d ∧ j = .int .i64 (q : Int) ∧ x = .int .i64 ((by1 / 2 ^ q : Nat) : Int)) (fun _ j => d - (intOf j).toNat)
      case atStart => exact ⟨0, Nat.zero_le _, rfl, by simp⟩
      case round =>
        obtain ⟨q2, hq, rfl, rfl⟩ := hrel
        have hle : by1 / 2 ^ q2 ≤ by1 := Nat.div_le_self _ _
        have hdv : by1 / 2 ^ (q2 + 1) = by1 / 2 ^ q2 / 2 := by rw [Nat.pow_succ, Nat.div_div_eq_div_mul]
        by_cases hlt : q2 < d
        · have HDV := Lib.hid hdv
          have hltI : (q2 : Int) < (d : Int) := by omega
          have HQ := Lib.hid hlt
          clear hdv hlt hq
          generalize by1 / 2 ^ q2 = z at *
          have hzI : (z : Int) ≤ 255 := by have := HB7.out; omega
          have hqI : (q2 : Int) ≤ 7 := by have := HQ.out; have := HD7.out; omega
          clear hle
          go_wp2
          go_round
          case rel => exact ⟨q2 + 1, by have := HQ.out; omega, by go_num, by rw [HDV.out]; first | rfl | go_num⟩
          case measure => have := HQ.out; simp [intOf] <;> omega
        · obtain rfl : q2 = d := by omega
          have hltI : ¬ ((q2 : Int) < (q2 : Int)) := by omega
          clear hdv hlt hq
          generalize hz : by1 / 2 ^ q2 = z at *
          have hzI : (z : Int) ≤ 255 := by have := HB7.out; omega
          have hm1 : (z : Int) % 2 = ((z % 2 : Nat) : Int) := by omega
          have hm2 : (z : Int).tmod 2 = ((z % 2 : Nat) : Int) := by rw [Int.tmod_eq_emod_of_nonneg (by omega)]; rfl
          clear hle hz
          generalize hbb : z % 2 = bt at *
          clear hbb
          have HM1 := Lib.hid hm1
          have hcode : IntKind.i64.wrap (2 * (vv : Int) + (bt : Int)) = ((2 * vv + bt : Nat) : Int) := by have := HB.out; rw [IntWalk.i64_in _ (by omega)]; omega
          have hfi := HFI.out bt
          generalize hnv : 2 * vv + bt = v1 at *
          have HNV := Lib.hid hnv
          generalize hn2 : nn + 1 = n1 at *
          have HN1 := Lib.hid hn2
          have hv1I : (v1 : Int) ≤ 2147483647 := by have := HB.out; omega
          clear hnv hn2
          go_upto_region 16 with fail
          obtain ⟨on1, hon1⟩ : ∃ on1, decide (v1 = 2 ^ n1 - 1) = on1 := ⟨_, rfl⟩
          have hon2 := HON.out
          rw [hon1] at hon2
          have HON1 := Lib.hid hon1
          have HON2 := Lib.hid hon2
          clear hon1 hon2 HON
          go_cut [10] (fun s10 wx => s10 = .bool on1 ∧ wr = wx)
          case first =>
            cases on with
            | false =>
              have h1 : on1 = false := HON2.out
              subst h1
              go_wp2
              go_meet
              exact ⟨rfl, rfl⟩
            | true =>
              by_cases hb1 : bt = 1
              · have h1 : on1 = true := by rw [HON2.out, hb1]; rfl
                subst h1
                subst hb1
                go_wp2
                go_meet
                exact ⟨rfl, rfl⟩
              · have h1 : on1 = false := by rw [HON2.out, decide_eq_false hb1]; rfl
                subst h1
                have hbI : ((bt : Int) == 1) = false := by rw [beq_eq_false_iff_ne]; omega
                clear hb1
                go_wp2
                go_meet
                exact ⟨rfl, rfl⟩
          case rest =>
            obtain ⟨rfl, rfl⟩ := hcut
            have hblk : wr.heap[b]? = _ := (hBr.block b (by omega)).trans HBL.out
            have hq0 : wr.cell? ⟨b, 0, none⟩ = some (.slice (some x0) 257 c0) := by rw [cell_of_row wr b _ _ _ _ hblk]; rfl
            have hq1 : wr.cell? ⟨b, 1, none⟩ = some (.slice (some x1) 257 c1) := by rw [cell_of_row wr b _ _ _ _ hblk]; rfl
            have hq2 : wr.cell? ⟨b, 2, none⟩ = some (.slice (some x2) 257 c2) := by rw [cell_of_row wr b _ _ _ _ hblk]; rfl
            have hbz : b + 1 ≤ wr.heap.size := heap_lt hblk
            clear hblk
            have HC0 := Lib.hid (fun k hk => (hBr.cell (p := x0.add k) (by rw [add_block]; omega)).trans (HC.out k hk).1)
            have HC1 := Lib.hid (fun k hk => (hBr.cell (p := x1.add k) (by rw [add_block]; omega)).trans (HC.out k hk).2.1)
            have HC2 := Lib.hid (fun k hk => (hBr.cell (p := x2.add k) (by rw [add_block]; omega)).trans (HC.out k hk).2.2)
            have hst := Hf.start_le n1 hn1
            have hn1I : (n1 : Int) ≤ 30 := by omega
            have hwn : IntKind.i64.wrap ((nn : Int) + 1) = (n1 : Int) := by have := HN1.out; rw [IntWalk.i64_in _ (by omega)]; omega
            have HBLW := Lib.hid (Hf.below_start n1)
            have HFRM := Lib.hid (Hf.from_start n1)
            generalize hS : Hf.start nn = S at *
            generalize hS1 : Hf.start n1 = S1 at *
            have HS1 := Lib.hid hS1
            have HSTM := Lib.hid hstm
            clear hS hS1 hstm
            go_wp2
            go_loop [11] (fun a => ∃ j : Nat, S ≤ j ∧ j ≤ S1 ∧ a = .int .i64 (j : Int)) (fun a => 257 - (intOf a).toNat)
            case atStart => exact ⟨S, Nat.le_refl _, HSTM.out, rfl⟩
            case round =>
              obtain ⟨a, ha0, ha1, rfl⟩ := hrel
              have haI : (a : Int) < 257 := by omega
              have hc1 := HC1.out a (by omega)
              by_cases hal : a < S1
              · have hlI := HBLW.out a hn1 hal
                generalize Hf.len (Hf.ord.getD a 0) = la at *
                have hlI2 : (la : Int) < (n1 : Int) := by omega
                clear hlI
                go_wp2
                go_round
                case rel => exact ⟨a + 1, by omega, by omega, by go_num⟩
                case measure => simp [intOf] <;> omega
              · obtain rfl : a = S1 := by omega
                have hlI := HFRM.out a hn1 (Nat.le_refl _) (by omega)
                generalize Hf.len (Hf.ord.getD a 0) = la at *
                have hlI2 : ¬ (la : Int) < (n1 : Int) := by omega
                clear hlI hal ha0 ha1
                go_wp2
                clear hc1 hlI2 haI
                generalize hkk : v1 - Hf.fst n1 = kk
                have HKK := Lib.hid hkk
                have HFI2 := Lib.hid hfi
                clear hkk hfi HFI
                have hcnt : Hf.cnt n1 = (Hf.hav n1).length := rfl
                have hsy : ∀ t, t < (Hf.hav n1).length → Hf.ord.getD (a + t) 0 = (Hf.hav n1).getD t 0 ∧ Hf.len ((Hf.hav n1).getD t 0) = n1 ∧ Hf.code ((Hf.hav n1).getD t 0) = Hf.fst n1 + t := fun t ht => ⟨by rw [← HS1.out]; exact Hf.ord_hav n1 t hn1 ht, Hf.sym_some_all n1 hn1 t ht⟩
                have HSY := Lib.hid hsy
                have hend : Hf.start (n1 + 1) = a + (Hf.hav n1).length := by have := Hf.start_succ n1 hn1; rw [HS1.out] at this; exact this
                have HEND := Lib.hid hend
                have HNXT := Lib.hid (Hf.from_start (n1 + 1) (a + (Hf.hav n1).length))
                have hHL : a + (Hf.hav n1).length ≤ 257 := by rw [← hend]; have := Hf.start_mono (n1 + 1) 31 (by omega) (by omega); rw [Hf.start_end] at this; exact this
                clear hsy hend
                have HCNT := Lib.hid hcnt
                clear hcnt
                generalize hq : (Hf.hav n1).length = q1 at *
                have HQ1 := Lib.hid hq
                clear hq
                by_cases hsome : kk < q1
                · have hs4 := sym_at (nn + 1) (2 * vv + bt) (by rw [HN1.out, HNV.out]; exact HFI2.out) (by rw [HN1.out, HNV.out, HKK.out, HQ1.out]; exact hsome)
                  rw [HN1.out, HNV.out, HKK.out] at hs4
                  have hd4 := fun x (hx : (Hf.hav n1).getD kk 0 = x) => dec_step_some m nn vv bt x out (by rw [HN1.out, HNV.out, hs4, hx])
                  have hlt4 : (Hf.hav n1).getD kk 0 < 257 := Hf.hav_lt n1 hn1 _ (by rw [List.getD_eq_getElem?_getD, List.getElem?_eq_getElem (by rw [HQ1.out]; exact hsome)]; exact List.getElem_mem _)
                  obtain ⟨hy1, hy2, hy3⟩ := HSY.out kk hsome
                  have hcx := HC0.out (a + kk) (by omega)
                  rw [hy1] at hcx
                  generalize hx : (Hf.hav n1).getD kk 0 = x at hd4 hlt4 hcx
                  have hd5 := hd4 x rfl
                  clear hd4 hs4 hx hy1 hy2 hy3
                  rw [← HDS.out] at hd5
                  have HD5 := Lib.hid hd5
                  have HCX := Lib.hid hcx
                  have HSOME := Lib.hid hsome
                  have hmax := max_as most m HM.out
                  generalize hMI : (m : Int) = M at hmax
                  have HMI := Lib.hid hMI
                  clear hMI hd5 hcx hsome
                  go_loopw [7, 8, 9, 10, 11, 15] (fun o v n on a0 kx wy => ∃ t : Nat, t ≤ kk ∧ o = .slice A out.length c ∧ v = .int .i64 (v1 : Int) ∧ n = .int .i64 (n1 : Int) ∧ on = .bool on1 ∧ a0 = .int .i64 (a : Int) ∧ kx = .int .i64 ((a + t : Nat) : Int) ∧ wy = wr) (fun _ _ _ _ _ kx _ => 257 - (intOf kx).toNat)
                  case atStart => exact ⟨0, Nat.zero_le _, rfl, rfl, rfl, rfl, rfl, rfl, rfl⟩
                  case round =>
                    obtain ⟨t, ht, rfl, rfl, rfl, rfl, rfl, rfl, rfl⟩ := hrel
                    have hkI : ((a + t : Nat) : Int) < 257 := by have := HSOME.out; omega
                    obtain ⟨hy1, hy2, hy3⟩ := HSY.out t (by have := HSOME.out; omega)
                    have hc1 := HC1.out (a + t) (by omega)
                    have hc2 := HC2.out (a + t) (by omega)
                    rw [hy1, hy2] at hc1
                    rw [hy1, hy3] at hc2
                    clear hy1 hy2 hy3
                    by_cases htk : t < kk
                    · have hne : (((Hf.fst n1 + t : Nat) : Int) != (v1 : Int)) = true := by have := HKK.out; have := HFI2.out; rw [bne_iff_ne]; omega
                      have HTK := Lib.hid htk
                      have hat : a + (t + 1) = a + t + 1 := rfl
                      have HAT := Lib.hid hat
                      clear htk ht hat
                      generalize Hf.fst n1 + t = cd at *
                      generalize a + t = kt at *
                      go_wp2
                      go_roundw
                      case measure => simp [intOf] <;> omega
                      case rel => exact ⟨t + 1, by have := HTK.out; omega, rfl, rfl, rfl, rfl, rfl, (by rw [HAT.out]; go_num), trivial⟩
                    · obtain rfl : t = kk := by omega
                      have hfv : Hf.fst n1 + t = v1 := by have := HKK.out; have := HFI2.out; omega
                      rw [hfv] at hc2
                      have hcx := HCX.out
                      clear htk ht hfv
                      generalize a + t = kt at *
                      have hd5 := HD5.out
                      by_cases hx256 : x = 256
                      · subst hx256
                        have HD6 := Lib.hid (dec_stop _ _ _ _ (hd5.trans (if_pos rfl)))
                        clear hd5
                        go_wp2
                        go_ret2
                        have hr : Hf.decode (nats s) m = ([], 31) := by unfold Hf.decode; rw [HD6.out]; rfl
                        rw [HM.out, hr]
                        exact ⟨rfl, hB2.trans (hBr.mono (by omega))⟩
                      · rw [if_neg hx256] at hd5
                        have hwx : IntKind.u8.wrap (x : Int) = (x : Int) := IntWalk.u8_in _ (by omega)
                        have hwx2 : (x : Int) % 256 = (x : Int) := by omega
                        have hxI : ((x : Int) == 256) = false := by rw [beq_eq_false_iff_ne]; omega
                        have HLT4 := Lib.hid hlt4
                        clear hlt4
                        generalize hXI : (x : Int) = X at hcx hwx hwx2 hxI
                        have HXI := Lib.hid hXI
                        clear hXI
                        have HX := Lib.hid hx256
                        clear hx256
                        by_cases hm3 : m ≤ out.length
                        · have hmI : M ≤ (out.length : Int) := by have := HMI.out; omega
                          have HD6 := Lib.hid (dec_stop _ _ _ _ (hd5.trans (if_pos hm3)))
                          clear hd5 hm3
                          go_wp2
                          go_ret2
                          have hr : Hf.decode (nats s) m = ([], 3) := by unfold Hf.decode; rw [HD6.out]; rfl
                          rw [HM.out, hr]
                          exact ⟨rfl, hB2.trans (hBr.mono (by omega))⟩
                        · rw [if_neg hm3] at hd5
                          have hmI : ¬ M ≤ (out.length : Int) := by have := HMI.out; omega
                          have HD6 := Lib.hid hd5
                          have HBY5 := Lib.hid (strN_snoc_byte HBY.out (x := x) (by have := HX.out; have := HLT4.out; omega))
                          clear hd5 hm3
                          go_wp2_with (at_builtin; go_must (refine wpList_push (b + 1) (by rfl) _ _ 39 5 _ 1 (by rfl) Try.underlying39 info_u8 rfl (.slice A out.length c) out.length (u8s out) (.int .u8 X) (by rfl) (by rfl) rfl (by exact hown) (by exact hbz) (by have := HOL.out; have := HS8.out; unfold maxLen; omega) (by have := HOL.out; have := HS8.out; omega) ?_; intro v5 w5 hown5 hg5 hat5))
                          have hB5 : Below (b + 1) w2 w5 := (hBr.alloc (by have := HSZ.out; omega) _).grown hg5 (by simp; omega) (fun g hg => (hown.lt g hg).1)
                          have hown6 : w5.ownsRow (b + 1) 5 1 v5 (out ++ [x]).length (u8s (out ++ [x])) := by rw [u8s_append, List.length_append, show u8s [x] = [.int .u8 X] from by rw [← HXI.out]; rfl]; exact hown5
                          clear hown5 hg5 hat5 hown hmax hix
                          go_wp2
                          go_roundw
                          case measure => simp [intOf] <;> omega
                          case rel => exact ⟨k + 1, 0, 0, out ++ [x], by omega, (by go_num), rfl, rfl, rfl, (by rw [Hf.start_zero]; rfl), hown6, HD6.out, Hf.Inv.zero, HBY5.out, by have := HOL.out; rw [List.length_append]; simp; omega, hB5⟩
                · have hge : q1 ≤ kk := by omega
                  have hd5 := dec_step_none m nn vv bt out (by rw [HN1.out, HNV.out, HKK.out, HCNT.out]; exact hge)
                  have hi5 := HI.out.next HB.out (by
                    unfold Hf.sym
                    split
                    · exact List.getElem?_eq_none (by rw [HN1.out, HNV.out, HKK.out, HQ1.out]; exact hge)
                    · rfl)
                  rw [HN1.out, HNV.out] at hd5 hi5
                  have hn30 : n1 < 30 := hi5.short
                  have hlast := HNXT.out (by omega) (by rw [HEND.out]; exact Nat.le_refl _) (by have := Hf.start_le (n1 + 1) (by omega); rw [HEND.out] at this; omega)
                  have hq257 : a + q1 < 257 := by have := Hf.start_le (n1 + 1) (by omega); rw [HEND.out] at this; omega
                  have HLAST := Lib.hid hlast
                  have HD5 := Lib.hid hd5
                  have HGE := Lib.hid hge
                  clear hd5 hge hlast hsome
                  go_loopw [7, 8, 9, 10, 11, 15] (fun o v n on a0 kx wy => ∃ t : Nat, t ≤ q1 ∧ o = .slice A out.length c ∧ v = .int .i64 (v1 : Int) ∧ n = .int .i64 (n1 : Int) ∧ on = .bool on1 ∧ a0 = .int .i64 (a : Int) ∧ kx = .int .i64 ((a + t : Nat) : Int) ∧ wy = wr) (fun _ _ _ _ _ kx _ => 257 - (intOf kx).toNat)
                  case atStart => exact ⟨0, Nat.zero_le _, rfl, rfl, rfl, rfl, rfl, rfl, rfl⟩
                  case round =>
                    obtain ⟨t, ht, rfl, rfl, rfl, rfl, rfl, rfl, rfl⟩ := hrel
                    have hkI : ((a + t : Nat) : Int) < 257 := by omega
                    have hc1 := HC1.out (a + t) (by omega)
                    by_cases htk : t < q1
                    · obtain ⟨hy1, hy2, hy3⟩ := HSY.out t htk
                      have hc2 := HC2.out (a + t) (by omega)
                      rw [hy1, hy2] at hc1
                      rw [hy1, hy3] at hc2
                      clear hy1 hy2 hy3
                      have hne : (((Hf.fst n1 + t : Nat) : Int) != (v1 : Int)) = true := by have := HKK.out; have := HFI2.out; have := HGE.out; rw [bne_iff_ne]; omega
                      have HTK := Lib.hid htk
                      have hat : a + (t + 1) = a + t + 1 := rfl
                      have HAT := Lib.hid hat
                      clear htk ht hat
                      generalize Hf.fst n1 + t = cd at *
                      generalize a + t = kt at *
                      go_wp2
                      go_roundw
                      case measure => simp [intOf] <;> omega
                      case rel => exact ⟨t + 1, by have := HTK.out; omega, rfl, rfl, rfl, rfl, rfl, (by rw [HAT.out]; go_num), trivial⟩
                    · obtain rfl : t = q1 := by omega
                      have hl := HLAST.out
                      generalize Hf.len (Hf.ord.getD (a + t) 0) = la at *
                      have hleq : ((la : Int) == (n1 : Int)) = false := by rw [beq_eq_false_iff_ne]; omega
                      clear hl htk ht
                      have hnI2 : a + t < 257 := hq257
                      generalize a + t = kt at *
                      go_wp2
                      go_roundw
                      case measure => simp [intOf] <;> omega
                      case rel => exact ⟨k + 1, n1, v1, out, by omega, (by go_num), rfl, rfl, (by rw [HON1.out]), (by rw [HS1.out]), hown, HDS.out.trans HD5.out, hi5, HBY.out, by have := HOL.out; omega, hBr⟩
    · obtain rfl : k = 8 * s.size := by omega
      rw [List.take_of_length_le (by rw [Hf.bits_length, nats_length]; exact Nat.le_refl _)] at hdec
      have hr : Hf.decode (nats s) m = if 7 < nn ∨ vv ≠ 2 ^ nn - 1 then ([], 30) else (out, 0) := by unfold Hf.decode; rw [hdec]; rfl
      have HR := Lib.hid hr
      have htext := run_text hown hbyte
      have hB9 : Below w.heap.size w wr := hB2.trans (hBr.mono (by omega))
      clear hr hdec hinv hbyte hol hown
      by_cases h7 : 7 < nn
      · have h7I : (7 : Int) < (nn : Int) := by omega
        generalize decide (vv = 2 ^ nn - 1) = on
        go_wp2
        go_ret2
        rw [HM.out, HR.out, if_pos (.inl h7)]
        exact ⟨rfl, hB9⟩
      · have h7I : ¬ (7 : Int) < (nn : Int) := by omega
        by_cases h8 : vv = 2 ^ nn - 1
        · rw [decide_eq_true h8]
          have H8 := Lib.hid h8
          clear h8
          go_wp2
          go_ret2
          rw [HM.out, HR.out, if_neg (by intro h; rcases h with h | h; exact h7 h; exact h H8.out)]
          exact ⟨rfl, hB9⟩
        · rw [decide_eq_false h8]
          have H8 := Lib.hid h8
          clear h8
          go_wp2
          go_ret2
          rw [HM.out, HR.out, if_pos (.inr H8.out)]
          exact ⟨rfl, hB9⟩
end Go.Proofs.Ytaogmekmampegaa
