/- prim.ReadInt, walked: it reads as the plain law does. -/
import Derived.Test.YtmjibpjnhehnnaaPb
namespace Go.Proofs.Ytmjibpjnhehnnaa
open Go.RowKit
attribute [local go_sem ↓] Go.wp_at_zero Go.wp_at_succ

theorem nats_inj {a b : ByteArray} (h : nats a = nats b) : a = b := by rw [← strN_nats a, h, strN_nats]
theorem empty_of_size {s : ByteArray} (h : s.size = 0) : s = ⟨#[]⟩ := by
  refine nats_inj ?_
  have h1 : nats s = [] := List.eq_nil_of_length_eq_zero (by rw [nats_length]; exact h)
  rw [h1]
  rfl
theorem not_empty {s : ByteArray} (h : 0 < s.size) : (s.toList == ([] : List UInt8)) = false := by
  rw [beq_eq_false_iff_ne]
  intro e
  rw [ByteArray.toList_eq] at e
  have h1 : s.data.toList.length = 0 := by rw [e]; rfl
  rw [Array.length_toList] at h1
  have h2 : s.size = 0 := h1
  omega
theorem and_127 : ∀ x, x < 256 → bits .and .u8 ((x : Nat) : Int) 127 = ((x % 128 : Nat) : Int) := by decide +kernel
theorem nats_drop (s : ByteArray) (i : Nat) (h : i < s.size) : (nats s).drop i = (nats s).getD i 0 :: (nats s).drop (i + 1) := by
  have hl : i < (nats s).length := by rw [nats_length]; exact h
  rw [List.drop_eq_getElem_cons hl, List.getD_eq_getElem?_getD, List.getElem?_eq_getElem hl]
  rfl
theorem getD_nats (s : ByteArray) (i : Nat) (h : i < s.size) : (nats s).getD i 0 < 256 := by
  have hl : i < (nats s).length := by rw [nats_length]; exact h
  rw [List.getD_eq_getElem?_getD, List.getElem?_eq_getElem hl]
  exact nats_byte s _ (List.getElem_mem _)
/-- One step of the reading. -/
theorem more_step (x : Nat) (l : List Nat) (i u n : Nat) : Pr.more (x :: l) i u n = if 2147483647 < n + u * (x % 128) ∨ (i = 5 ∧ 128 ≤ x) then (0, 0, 41) else if x < 128 then (n + u * (x % 128), i + 1, 0) else Pr.more l (i + 1) (128 * u) (n + u * (x % 128)) := rfl

set_option maxRecDepth 100000 in
theorem readInt_bad (s : ByteArray) (b : Int) (w : World) (hb : b < 1 ∨ 8 < b) :
    Calls Try.prog 61 #[.string s, .int .i64 b] w fun e w' => e = .returned (.tuple #[.int .i64 0, .int .i64 0, .int .i64 1]) ∧ w = w' := by
  by_cases h1 : b < 1
  · go_enter Try.func61, Try.ntmps61
    go_wp2
    go_ret3
    exact ⟨rfl, rfl⟩
  · have h2 : 8 < b := by omega
    go_enter Try.func61, Try.ntmps61
    go_wp2
    go_ret3
    exact ⟨rfl, rfl⟩

set_option maxRecDepth 100000 in
set_option maxHeartbeats 2000000 in
theorem readInt_good (s : ByteArray) (b m : Nat) (r : Nat × Nat × Nat) (w : World) (hb1 : 1 ≤ b) (hb8 : b ≤ 8) (hm : m = 2 ^ b) (hr : Pr.read (nats s) m = r) :
    Calls Try.prog 61 #[.string s, .int .i64 (b : Int)] w fun e w' => e = .returned (.tuple #[.int .i64 (r.1 : Int), .int .i64 (r.2.1 : Int), .int .i64 (r.2.2 : Int)]) ∧ w = w' := by
  have hm1 := pow_in b m hb1 hb8 hm
  have hb0 : (0 : Int) ≤ (b : Int) := by omega
  have hbI1 : ¬ (b : Int) < 1 := by omega
  have hbI8 : ¬ (8 : Int) < (b : Int) := by omega
  by_cases h0 : s.size = 0
  · obtain rfl := empty_of_size h0
    have hr2 : r = (0, 0, 40) := by rw [← hr]; rfl
    subst hr2
    clear hr h0 hm hm1
    go_enter Try.func61, Try.ntmps61
    go_wp2
    go_ret3
    exact ⟨rfl, rfl⟩
  · have hne := not_empty (s := s) (by omega)
    have hd := nats_drop s 0 (by omega)
    rw [List.drop_zero] at hd
    have hx0 := getD_nats s 0 (by omega)
    have hix : ∀ w, (Instr.index 9 (.string s) (.int .i64 0)).run Try.prog w = .ok (.int .u8 (((nats s).getD 0 0 : Nat) : Int)) w := fun w => run_index_nat Try.prog 9 Try.underlying9 s 0 (by omega) w
    rw [hd] at hr
    generalize (nats s).getD 0 0 = x at hix hx0 hr
    have hsh : IntKind.i64.wrap ((2 : Int) ^ b) = (m : Int) := by
      have h1 : ((2 : Int) ^ b) = ((2 ^ b : Nat) : Int) := by simp
      rw [h1, ← hm, IntWalk.i64_in _ (by omega)]
    have hms : IntKind.i64.wrap ((m : Int) - 1) = ((m - 1 : Nat) : Int) := by rw [IntWalk.i64_in _ (by omega)]; omega
    have hwx : IntKind.i64.wrap (x : Int) = (x : Int) := IntWalk.i64_in _ (by omega)
    have hand := and_mask x hx0 b (by omega)
    rw [← hm] at hand
    have hrd : (if x % m < m - 1 then (x % m, 1, 0) else Pr.more ((nats s).drop 1) 1 1 (x % m)) = r := hr
    have hxm : x % m < m := Nat.mod_lt _ (by omega)
    by_cases hlt : x % m < m - 1
    · rw [if_pos hlt] at hrd
      subst hrd
      have hlI : ((x % m : Nat) : Int) < ((m - 1 : Nat) : Int) := by omega
      generalize x % m = y at hand hlI
      generalize m - 1 = k at hms hand hlI
      generalize (m : Int) = M at hsh hms
      clear hr hm hm1 h0 hd hx0 hxm hlt
      go_enter Try.func61, Try.ntmps61
      go_wp2
      go_ret3
      exact ⟨rfl, rfl⟩
    · rw [if_neg hlt] at hrd
      have hlI : ¬ ((x % m : Nat) : Int) < ((m - 1 : Nat) : Int) := by omega
      have hln : decide (x % m < m - 1) = false := decide_eq_false hlt
      have hyb : x % m ≤ 255 := by omega
      generalize x % m = y at hand hlI hln hrd hyb
      generalize m - 1 = k at hms hand hlI hln
      generalize (m : Int) = M at hsh hms
      have HRD := Lib.hid hrd
      have H0 := Lib.hid h0
      have HYB := Lib.hid hyb
      clear hr hm hm1 h0 hd hx0 hxm hlt hrd hyb
      go_enter Try.func61, Try.ntmps61
      go_wp2
      go_loopw [8, 9] (fun n i wr => ∃ I a : Nat, n = .int .i64 (a : Int) ∧ i = .int .i64 (I : Int) ∧ 1 ≤ I ∧ I ≤ 5 ∧ I ≤ s.size ∧ a ≤ 2147483647 ∧ Pr.more ((nats s).drop I) I (128 ^ (I - 1)) a = r ∧ wr = w) (fun _ i _ => 6 - (intOf i).toNat)
      case atStart => exact ⟨1, y, rfl, rfl, by omega, by omega, (by have := H0.out; omega), (by have := HYB.out; omega), HRD.out, rfl⟩
      case round =>
        obtain ⟨I, a, rfl, rfl, hI1, hI5, hIs, ha, hmore, rfl⟩ := hrel
        by_cases hlt : I < s.size
        · have hIx := run_index_nat Try.prog 9 Try.underlying9 s I hlt
          have hz := getD_nats s I hlt
          have hdr := nats_drop s I hlt
          generalize (nats s).getD I 0 = z at hIx hz hdr
          rw [hdr, more_step] at hmore
          have hz127 := and_127 z hz
          have hzw : IntKind.i64.wrap ((z % 128 : Nat) : Int) = ((z % 128 : Nat) : Int) := IntWalk.i64_in _ (by omega)
          have hIj : IntKind.i64.wrap ((I : Int) - 1) = ((I - 1 : Nat) : Int) := by rw [IntWalk.i64_in _ (by omega)]; omega
          have h7j : IntKind.i64.wrap (7 * ((I - 1 : Nat) : Int)) = ((7 * (I - 1) : Nat) : Int) := by rw [IntWalk.i64_in _ (by omega)]; omega
          have hs0 : (0 : Int) ≤ ((7 * (I - 1) : Nat) : Int) := by omega
          have hs1 : ((7 * (I - 1) : Nat) : Int) ≤ 64 := by omega
          have hpw : (2 : Nat) ^ (7 * (I - 1)) = 128 ^ (I - 1) := by rw [Nat.pow_mul]
          have hple : 128 ^ (I - 1) ≤ 128 ^ 4 := Nat.pow_le_pow_right (by omega) (by omega)
          have hple2 : 128 ^ (I - 1) * (z % 128) ≤ 128 ^ 4 * 128 := Nat.mul_le_mul hple (by omega)
          have hpp : 128 ^ I = 128 * 128 ^ (I - 1) := by
            have h1 : I = I - 1 + 1 := by omega
            conv => lhs; rw [h1]
            rw [Nat.pow_succ, Nat.mul_comm]
          have hc5 : (128 : Nat) ^ 4 * 128 = 34359738368 := by decide
          rw [hc5] at hple2
          have hshl : IntKind.i64.wrap (((z % 128 : Nat) : Int) * 2 ^ (7 * (I - 1))) = ((128 ^ (I - 1) * (z % 128) : Nat) : Int) := by
            have h1 : ((z % 128 : Nat) : Int) * 2 ^ (7 * (I - 1)) = ((128 ^ (I - 1) * (z % 128) : Nat) : Int) := by
              rw [← hpw]
              simp [Int.mul_comm]
            rw [h1, IntWalk.i64_in _ (by omega)]
          have hsum : IntKind.i64.wrap ((a : Int) + ((128 ^ (I - 1) * (z % 128) : Nat) : Int)) = ((a + 128 ^ (I - 1) * (z % 128) : Nat) : Int) := by rw [IntWalk.i64_in _ (by omega)]; omega
          have hI1w : IntKind.i64.wrap ((I : Int) + 1) = ((I + 1 : Nat) : Int) := IntWalk.i64_in _ (by omega)
          rw [← hpp] at hmore
          generalize 128 ^ (I - 1) * (z % 128) = q at hshl hsum hmore
          have hII : (I : Int) < (s.size : Int) := by omega
          have hj0 : (0 : Int) ≤ (I : Int) := by omega
          generalize 7 * (I - 1) = s7 at h7j hs0 hs1 hshl
          generalize I - 1 = j at hIj h7j
          generalize z % 128 = z7 at hz127 hzw hshl
          generalize hA : a + q = A at hsum hmore
          have HA := Lib.hid hA
          clear hpw hple hple2 hpp hc5 hdr hA ha hz
          by_cases hbig : 2147483647 < A
          · have hbI : (2147483647 : Int) < (A : Int) := by omega
            rw [if_pos (.inl hbig)] at hmore
            subst hmore
            clear hbig
            by_cases hz8 : z < 128
            · have hzI : (z : Int) < 128 := by omega
              clear hz8
              go_wp2
              go_ret3
              exact ⟨rfl, rfl⟩
            · have hzI : ¬ (z : Int) < 128 := by omega
              clear hz8
              go_wp2
              go_ret3
              exact ⟨rfl, rfl⟩
          · have hbI : ¬ (2147483647 : Int) < (A : Int) := by omega
            by_cases hz8 : z < 128
            · have hzI : (z : Int) < 128 := by omega
              rw [if_neg (by rintro (h | ⟨_, h⟩) <;> omega), if_pos hz8] at hmore
              subst hmore
              clear hz8 hbig
              by_cases h5 : I = 5
              · have h5I : ((I : Int) == 5) = true := by rw [beq_iff_eq]; omega
                clear h5
                go_wp2
                go_ret3
                exact ⟨rfl, rfl⟩
              · have h5I : ((I : Int) == 5) = false := by rw [beq_eq_false_iff_ne]; omega
                clear h5
                go_wp2
                go_ret3
                exact ⟨rfl, rfl⟩
            · have hzI : ¬ (z : Int) < 128 := by omega
              by_cases h5 : I = 5
              · rw [if_pos (.inr ⟨h5, by omega⟩)] at hmore
                subst hmore
                have h5I : ((I : Int) == 5) = true := by rw [beq_iff_eq]; omega
                clear hz8 hbig h5
                go_wp2
                go_ret3
                exact ⟨rfl, rfl⟩
              · have h5I : ((I : Int) == 5) = false := by rw [beq_eq_false_iff_ne]; omega
                rw [if_neg (by rintro (h | ⟨h, _⟩) <;> omega), if_neg hz8] at hmore
                have HM := Lib.hid hmore
                have HB := Lib.hid hbig
                have H5 := Lib.hid h5
                clear hmore hz8 hbig h5
                go_wp2
                go_roundw
                case measure => have := H5.out; simp [intOf]; omega
                case rel => exact ⟨I + 1, A, rfl, rfl, by omega, by have := H5.out; omega, by omega, by have := HB.out; omega, HM.out, trivial⟩
        · have hnI : ¬ (I : Int) < (s.size : Int) := by omega
          rw [List.drop_of_length_le (by rw [nats_length]; omega)] at hmore
          have hr2 : r = (0, 0, 40) := by rw [← hmore]; rfl
          subst hr2
          clear hmore
          go_wp2
          go_ret3
          exact ⟨rfl, rfl⟩
end Go.Proofs.Ytmjibpjnhehnnaa
