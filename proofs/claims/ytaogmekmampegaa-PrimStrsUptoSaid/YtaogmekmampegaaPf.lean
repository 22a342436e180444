/- The reference's ReadInt, walked: it reads as the plain law does. -/
import Derived.Test.YtaogmekmampegaaPc
import Derived.Test.YtaogmekmampegaaPd
namespace Go.Proofs.Ytaogmekmampegaa
open Go.RowKit
attribute [local go_sem ↓] Go.wp_at_zero Go.wp_at_succ

set_option maxRecDepth 100000 in
theorem refReadInt_bad (s : ByteArray) (b : Int) (w : World) (hb : b < 1 ∨ 8 < b) :
    Calls Try.prog 14 #[.string s, .int .i64 b] w fun e w' => e = .returned (.tuple #[.int .i64 0, .int .i64 0, .int .i64 1]) ∧ w = w' := by
  by_cases h1 : b < 1
  · go_enter Try.func14, Try.ntmps14
    go_wp2
    go_ret3
    exact ⟨rfl, rfl⟩
  · have h2 : 8 < b := by omega
    go_enter Try.func14, Try.ntmps14
    go_wp2
    go_ret3
    exact ⟨rfl, rfl⟩

set_option maxRecDepth 100000 in
set_option maxHeartbeats 2000000 in
theorem refReadInt_good (s : ByteArray) (b m : Nat) (r : Nat × Nat × Nat) (w : World) (hb1 : 1 ≤ b) (hb8 : b ≤ 8) (hm : m = 2 ^ b) (hr : Pr.read (nats s) m = r) :
    Calls Try.prog 14 #[.string s, .int .i64 (b : Int)] w fun e w' => e = .returned (.tuple #[.int .i64 (r.1 : Int), .int .i64 (r.2.1 : Int), .int .i64 (r.2.2 : Int)]) ∧ w = w' := by
  have hm1 := pow_in b m hb1 hb8 hm
  have HP := Lib.hid (power_any b)
  have hbI1 : ¬ (b : Int) < 1 := by omega
  have hbI8 : ¬ (8 : Int) < (b : Int) := by omega
  by_cases h0 : s.size = 0
  · obtain rfl := empty_of_size h0
    have hr2 : r = (0, 0, 40) := by rw [← hr]; rfl
    subst hr2
    clear hr h0 hm hm1
    go_enter Try.func14, Try.ntmps14
    go_wp2
    go_ret3
    exact ⟨rfl, rfl⟩
  · have hne : ((s.size : Int) == 0) = false := by rw [beq_eq_false_iff_ne]; omega
    have hd := nats_drop s 0 (by omega)
    rw [List.drop_zero] at hd
    have hx0 := getD_nats s 0 (by omega)
    have hix : ∀ w, (Instr.index 9 (.string s) (.int .i64 0)).run Try.prog w = .ok (.int .u8 (((nats s).getD 0 0 : Nat) : Int)) w := fun w => run_index_nat Try.prog 9 Try.underlying9 s 0 (by omega) w
    rw [hd] at hr
    generalize (nats s).getD 0 0 = x at hix hx0 hr
    have hms : IntKind.i64.wrap ((m : Int) - 1) = ((m - 1 : Nat) : Int) := by rw [IntWalk.i64_in _ (by omega)]; omega
    have hwx : IntKind.i64.wrap (x : Int) = (x : Int) := IntWalk.i64_in _ (by omega)
    have hrem : (x : Int).tmod (m : Int) = ((x % m : Nat) : Int) := by rw [Int.tmod_eq_emod_of_nonneg (by omega)]; rfl
    have hmz : ¬ (m : Int) = 0 := by omega
    have hrd : (if x % m < m - 1 then (x % m, 1, 0) else Pr.more ((nats s).drop 1) 1 1 (x % m)) = r := hr
    by_cases hlt : x % m < m - 1
    · rw [if_pos hlt] at hrd
      subst hrd
      have hlI : ((x % m : Nat) : Int) < ((m - 1 : Nat) : Int) := by omega
      generalize x % m = y at hrem hlI
      generalize m - 1 = k at hms hlI
      have HM := Lib.hid hm
      clear hr hm hm1 h0 hd hx0 hlt
      go_enter Try.func14, Try.ntmps14
      go_wp2_with fail
      refine (HP.out _ hb8).mono ?_
      rintro e w1 ⟨rfl, rfl⟩
      rw [← HM.out]
      go_wp2
      go_ret3
      exact ⟨rfl, rfl⟩
    · rw [if_neg hlt] at hrd
      have hlI : ¬ ((x % m : Nat) : Int) < ((m - 1 : Nat) : Int) := by omega
      have hln : decide (x % m < m - 1) = false := decide_eq_false hlt
      have hyb : x % m ≤ 255 := by have := Nat.mod_lt x (show 0 < m by omega); omega
      generalize x % m = y at hrem hlI hln hrd hyb
      generalize m - 1 = k at hms hlI hln
      have HM := Lib.hid hm
      have HRD := Lib.hid hrd
      have H0 := Lib.hid h0
      have HYB := Lib.hid hyb
      clear hr hm hm1 h0 hd hx0 hlt hrd hyb
      go_enter Try.func14, Try.ntmps14
      go_wp2_with fail
      refine (HP.out _ hb8).mono ?_
      rintro e w1 ⟨rfl, rfl⟩
      rw [← HM.out]
      go_wp2
      go_loopw [8, 9, 10] (fun n u i wr => ∃ I a : Nat, n = .int .i64 (a : Int) ∧ u = .int .i64 ((128 ^ (I - 1) : Nat) : Int) ∧ i = .int .i64 (I : Int) ∧ 1 ≤ I ∧ I ≤ 5 ∧ a ≤ 2147483647 ∧ Pr.more ((nats s).drop I) I (128 ^ (I - 1)) a = r ∧ wr = w) (fun _ _ i _ => 6 - (intOf i).toNat)
      case atStart => exact ⟨1, y, rfl, rfl, rfl, by omega, by omega, (by have := HYB.out; omega), HRD.out, rfl⟩
      case round =>
        obtain ⟨I, a, rfl, rfl, rfl, hI1, hI5, ha, hmore, rfl⟩ := hrel
        have hI5I : (I : Int) ≤ 5 := by omega
        by_cases hlt : I < s.size
        · have hIx := run_index_nat Try.prog 9 Try.underlying9 s I hlt
          have hz := getD_nats s I hlt
          have hdr := nats_drop s I hlt
          generalize (nats s).getD I 0 = z at hIx hz hdr
          rw [hdr, more_step] at hmore
          have hzr : (z : Int).tmod 128 = ((z % 128 : Nat) : Int) := by rw [Int.tmod_eq_emod_of_nonneg (by omega)]; rfl
          have hzw : IntKind.i64.wrap (z : Int) = (z : Int) := IntWalk.i64_in _ (by omega)
          have hple : 128 ^ (I - 1) ≤ 128 ^ 4 := Nat.pow_le_pow_right (by omega) (by omega)
          have hple2 : 128 ^ (I - 1) * (z % 128) ≤ 128 ^ 4 * 128 := Nat.mul_le_mul hple (by omega)
          have hpp : 128 ^ I = 128 * 128 ^ (I - 1) := by
            have h1 : I = I - 1 + 1 := by omega
            conv => lhs; rw [h1]
            rw [Nat.pow_succ, Nat.mul_comm]
          have hc5 : (128 : Nat) ^ 4 * 128 = 34359738368 := by decide
          have hc4 : (128 : Nat) ^ 4 = 268435456 := by decide
          rw [hc5] at hple2
          rw [hc4] at hple
          have hmul : IntKind.i64.wrap (((128 ^ (I - 1) : Nat) : Int) * ((z % 128 : Nat) : Int)) = ((128 ^ (I - 1) * (z % 128) : Nat) : Int) := by
            rw [← Int.natCast_mul, IntWalk.i64_in _ (by omega)]
          have hsum : IntKind.i64.wrap ((a : Int) + ((128 ^ (I - 1) * (z % 128) : Nat) : Int)) = ((a + 128 ^ (I - 1) * (z % 128) : Nat) : Int) := by rw [IntWalk.i64_in _ (by omega)]; omega
          have hun : IntKind.i64.wrap (128 * ((128 ^ (I - 1) : Nat) : Int)) = ((128 ^ I : Nat) : Int) := by rw [hpp, IntWalk.i64_in _ (by omega)]; omega
          have hI1w : IntKind.i64.wrap ((I : Int) + 1) = ((I + 1 : Nat) : Int) := IntWalk.i64_in _ (by omega)
          rw [← hpp] at hmore
          generalize 128 ^ (I - 1) * (z % 128) = q at hmul hsum hmore
          have hpu : 128 ^ (I + 1 - 1) = 128 ^ I := rfl
          have HPU := Lib.hid hpu
          have hII : ¬ ((s.size : Int) ≤ (I : Int)) := by omega
          have hj0 : (0 : Int) ≤ (I : Int) := by omega
          have hI2 : (I : Int) < (s.size : Int) := by omega
          generalize hU : 128 ^ (I - 1) = u at hmul hun ⊢
          generalize hV : 128 ^ I = v at hun hmore
          have HV := Lib.hid hV
          generalize z % 128 = z7 at hzr hmul
          generalize hA : a + q = A at hsum hmore
          clear hple hple2 hpp hc5 hc4 hdr hA ha hz hU hV hpu
          by_cases hbig : 2147483647 < A
          · have hbI : (2147483647 : Int) < (A : Int) := by omega
            rw [if_pos (.inl hbig)] at hmore
            subst hmore
            clear hbig
            go_wp2
            go_ret3
            exact ⟨rfl, rfl⟩
          · have hbI : ¬ (2147483647 : Int) < (A : Int) := by omega
            by_cases hz8 : z < 128
            · have hzI : (z : Int) < 128 := by omega
              rw [if_neg (by rintro (h | ⟨_, h⟩) <;> omega), if_pos hz8] at hmore
              subst hmore
              clear hz8 hbig
              by_cases h5 : I = 5
              · have h5I : ((I : Int) == 5) = true := by rw [beq_iff_eq]; omega
                clear h5
                go_wp2
                go_ret3
                exact ⟨rfl, rfl⟩
              · have h5I : ((I : Int) == 5) = false := by rw [beq_eq_false_iff_ne]; omega
                clear h5
                go_wp2
                go_ret3
                exact ⟨rfl, rfl⟩
            · have hzI : ¬ (z : Int) < 128 := by omega
              by_cases h5 : I = 5
              · rw [if_pos (.inr ⟨h5, by omega⟩)] at hmore
                subst hmore
                have h5I : ((I : Int) == 5) = true := by rw [beq_iff_eq]; omega
                clear hz8 hbig h5
                go_wp2
                go_ret3
                exact ⟨rfl, rfl⟩
              · have h5I : ((I : Int) == 5) = false := by rw [beq_eq_false_iff_ne]; omega
                rw [if_neg (by rintro (h | ⟨h, _⟩) <;> omega), if_neg hz8] at hmore
                have HM2 := Lib.hid hmore
                have HB := Lib.hid hbig
                have H5 := Lib.hid h5
                clear hmore hz8 hbig h5
                go_wp2
                go_roundw
                case measure => have := H5.out; simp [intOf]; omega
                case rel => exact ⟨I + 1, A, rfl, (by rw [HPU.out, HV.out]), rfl, by omega, by have := H5.out; omega, by have := HB.out; omega, (by rw [HPU.out, HV.out]; exact HM2.out), trivial⟩
        · have hnI : (s.size : Int) ≤ (I : Int) := by omega
          rw [List.drop_of_length_le (by rw [nats_length]; omega)] at hmore
          have hr2 : r = (0, 0, 40) := by rw [← hmore]; rfl
          subst hr2
          clear hmore
          generalize 128 ^ (I - 1) = u
          go_wp2
          go_ret3
          exact ⟨rfl, rfl⟩
end Go.Proofs.Ytaogmekmampegaa
