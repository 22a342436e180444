/- The laws PrimStrBack and PrimShorter: a text that is written is read as the same; it is coded just if that makes it shorter. -/
import Derived.Test.YtaogmekmampegaaPy
import Derived.Test.YtaogmekmampegaaPm
namespace Go.Proofs.Ytaogmekmampegaa
open Go.RowKit
attribute [local go_sem ↓] Go.wp_at_zero Go.wp_at_succ

theorem int_byte7 (h n : Nat) (hh : h = 0 ∨ h = 128) : Hf.Byte (Pr.int h 128 n) := int_byte h 128 n 7 (by omega) rfl (by omega) (by omega) (by omega)
theorem str_byte (l : List Nat) (hl : Hf.Byte l) : Hf.Byte (Pr.str l) := by
  unfold Pr.str
  split
  · intro x hx
    rcases List.mem_append.1 hx with hx | hx
    · exact int_byte7 _ _ (.inr rfl) x hx
    · exact Hf.enc_byte l x hx
  · intro x hx
    rcases List.mem_append.1 hx with hx | hx
    · exact int_byte7 _ _ (.inl rfl) x hx
    · exact hl x hx

set_option maxRecDepth 100000 in
set_option maxHeartbeats 2000000 in
theorem primStrBack_true (w : World) (s : ByteArray) (_hs : s.size ≤ 140737488355328) (z : ByteArray) (hz : z.size ≤ 140737488355328) (cut : Int) (_wc : (Lit.int .i64 cut).wf = true) :
    Calls Try.prog 8 #[.string s, .string z, .int .i64 cut] w fun e w' => e = .returned (.bool true) ∧ Below w.heap.size w w' := by
  by_cases hbig : 268435456 ≤ s.size
  · have hI : (268435456 : Int) ≤ (s.size : Int) := by omega
    clear hbig hz _hs _wc
    go_enter Try.func8, Try.ntmps8
    go_wp2_with fail
    refine (awake_true _).mono ?_
    rintro en w1 ⟨rfl, hb1⟩
    go_wp2_with fail
    go_ret
    exact ⟨rfl, hb1⟩
  · have hnl := nats_length s
    have hby := nats_byte s
    have hlt : (nats s).length < 268435456 := by omega
    have hlen := Pr.str_len (nats s) hlt
    have hns := nats_strN _ (str_byte _ hby)
    have hr1 := Pr.readStr_str (nats s) (nats z) hby hlt
    have hr2 := fun k => Pr.readStr_cut (nats s) k hlt
    have hr3 := Pr.readStr_less (nats s) hby hlt
    have H0 := Lib.hid (fun w => str_any s w (by omega))
    obtain ⟨S, hS⟩ : ∃ S, strN (Pr.str (nats s)) = S := ⟨_, rfl⟩
    simp only [hS] at H0
    rw [hS] at hns
    rw [← hns] at hr1 hr2 hr3 hlen
    rw [← nats_append] at hr1
    simp only [nats_length] at hr1 hr2 hr3 hlen
    obtain ⟨c, hc, hcl⟩ : ∃ c : Nat, min ((max cut 0).toNat : Int) ((S.size - 1 : Nat) : Int) = (c : Int) ∧ c < S.size := ⟨min (max cut 0).toNat (S.size - 1), by omega, by omega⟩
    have hmax := max_as cut (max cut 0).toNat rfl
    have hmin := min_as _ _ _ hc
    have hr2 := hr2 c hcl
    rw [← nats_extract] at hr2
    have hsum := size_append' S z
    have H1 := Lib.hid (fun w => readStr_any (S ++ z) (s.size : Int) s.size _ w (by omega) hr1 (by omega))
    simp only [strN_nats] at H1
    have hxs : (S.extract 0 c).size ≤ S.size := by rw [← nats_length, nats_extract, List.length_take, nats_length]; omega
    have H2 := Lib.hid (fun w => readStr_any (S.extract 0 c) (s.size : Int) s.size _ w (by omega) hr2 (by omega))
    have hw3 : IntKind.i64.wrap ((s.size : Int) - 1) = (s.size : Int) - 1 := IntWalk.i64_in _ (by omega)
    obtain ⟨r3, hr⟩ : ∃ r, Pr.readStr (nats S) (s.size - 1) = r := ⟨_, rfl⟩
    rw [hr] at hr3
    have H3 := Lib.hid (fun w => readStr_any S ((s.size : Int) - 1) (s.size - 1) r3 w (by omega) hr (by omega))
    have hcut := fun w => run_slice_string_h (P := Try.prog) w 9 S Try.underlying9 .i64 (c : Int) (by omega) (by omega)
    rw [Int.toNat_natCast] at hcut
    have hadd := fun w => run_string_add_sum (P := Try.prog) w S z (by omega)
    have hw1 : IntKind.i64.wrap ((S.size : Int) - 1) = ((S.size - 1 : Nat) : Int) := by rw [IntWalk.i64_in _ (by omega)]; omega
    have hw5 : IntKind.i64.wrap ((s.size : Int) + 5) = (s.size : Int) + 5 := IntWalk.i64_in _ (by omega)
    have hS6 : ¬ (s.size : Int) + 5 < (S.size : Int) := by omega
    have hS1 : ¬ (S.size : Int) < 1 := by omega
    have hI : ¬ (268435456 : Int) ≤ (s.size : Int) := by omega
    obtain ⟨t3, k3, e3⟩ := r3
    simp only at hr3 H3
    by_cases h0 : s.size = 0
    · have h0I : ((s.size : Int) == 0) = true := by rw [beq_iff_eq]; omega
      clear hnl hby hlt hlen hns hr1 hr2 hr3 hS hc hcl hsum hxs hr hbig hz _hs _wc h0
      generalize (max cut 0).toNat = M at hmax hmin
      generalize S.size - 1 = k at hmin hw1
      generalize strN t3 = T3 at *
      generalize (e3 : Int) = E3 at *
      generalize (k3 : Int) = K3 at *
      go_enter Try.func8, Try.ntmps8
      go_wp2_with fail
      refine (H0.out _).mono ?_
      rintro en w0 ⟨rfl, hb0⟩
      clear hI
      go_wp2_with fail
      refine (H1.out _).mono ?_
      rintro en w1 ⟨rfl, hb1⟩
      go_wp2_with fail
      refine (H2.out _).mono ?_
      rintro en w2 ⟨rfl, hb2⟩
      go_wp2_with fail
      refine (H3.out _).mono ?_
      rintro en w3 ⟨rfl, hb3⟩
      go_wp2_with fail
      refine (awake_true _).mono ?_
      rintro en w4 ⟨rfl, hb4⟩
      go_wp2_with fail
      go_ret
      exact ⟨rfl, bel2 (bel2 (bel2 (bel2 hb0 hb1) hb2) hb3) hb4⟩
    · have h0I : ((s.size : Int) == 0) = false := by rw [beq_eq_false_iff_ne]; omega
      obtain rfl : e3 = 3 := hr3 (by omega)
      clear hnl hby hlt hlen hns hr1 hr2 hr3 hS hc hcl hsum hxs hr hbig hz _hs _wc h0
      generalize (max cut 0).toNat = M at hmax hmin
      generalize S.size - 1 = k at hmin hw1
      generalize strN t3 = T3 at *
      generalize (k3 : Int) = K3 at *
      go_enter Try.func8, Try.ntmps8
      go_wp2_with fail
      refine (H0.out _).mono ?_
      rintro en w0 ⟨rfl, hb0⟩
      clear hI
      go_wp2_with fail
      refine (H1.out _).mono ?_
      rintro en w1 ⟨rfl, hb1⟩
      go_wp2_with fail
      refine (H2.out _).mono ?_
      rintro en w2 ⟨rfl, hb2⟩
      go_wp2_with fail
      refine (H3.out _).mono ?_
      rintro en w3 ⟨rfl, hb3⟩
      go_wp2_with fail
      refine (awake_true _).mono ?_
      rintro en w4 ⟨rfl, hb4⟩
      go_wp2_with fail
      go_ret
      exact ⟨rfl, bel2 (bel2 (bel2 (bel2 hb0 hb1) hb2) hb3) hb4⟩

set_option maxRecDepth 100000 in
set_option maxHeartbeats 2000000 in
theorem primShorter_true (w : World) (s : ByteArray) (hs : s.size ≤ 1048576) :
    Calls Try.prog 9 #[.string s] w fun e w' => e = .returned (.bool true) ∧ Below w.heap.size w w' := by
  have hnl := nats_length s
  have hby := nats_byte s
  have hsr := Pr.str_read (nats s) (by omega)
  have hns := nats_strN _ (str_byte _ hby)
  have H0 := Lib.hid (fun w => str_any s w (by omega))
  have hsize := fun w => size_any s w (by omega)
  obtain ⟨S, hS⟩ : ∃ S, strN (Pr.str (nats s)) = S := ⟨_, rfl⟩
  simp only [hS] at H0
  rw [hS] at hns
  rw [← hns, nats_length] at hsr
  rw [nats_length] at hsr
  generalize (Hf.enc (nats s)).length = n at hsr hsize
  obtain ⟨hrd, hle, hcd, h1, h6⟩ := hsr
  have HSZ := Lib.hid hsize
  have HR := Lib.hid (fun w => readInt_good S 7 128 _ w (by omega) (by omega) rfl hrd)
  simp only at HR
  have hx0 := getD_nats S 0 (by omega)
  have hix : ∀ w, (Instr.index 9 (.string S) (.int .i64 0)).run Try.prog w = .ok (.int .u8 (((nats S).getD 0 0 : Nat) : Int)) w := fun w => run_index_nat Try.prog 9 Try.underlying9 S 0 (by omega) w
  generalize (nats S).getD 0 0 = x at hix hcd hx0
  have hmin := min_as (n : Int) (s.size : Int) ((min n s.size : Nat) : Int) (by omega)
  have hne : ((S.size : Int) == 0) = false := by rw [beq_eq_false_iff_ne]; omega
  have hkm : ((((S.size - min n s.size : Nat) : Int) + ((min n s.size : Nat) : Int)) == (S.size : Int)) = true := by rw [beq_iff_eq]; omega
  have hk1 : ((S.size - min n s.size : Nat) : Int) ≤ 2000000 := by omega
  have hm1 : ((min n s.size : Nat) : Int) ≤ 2000000 := by omega
  generalize S.size - min n s.size = k at HR hkm hk1
  generalize min n s.size = m at hmin HR hkm hm1
  by_cases hlt : n < s.size
  · rw [if_pos hlt] at hcd
    have hlI : (n : Int) < (s.size : Int) := by omega
    have hxI : (128 : Int) ≤ (x : Int) := by omega
    clear hnl hby hns hrd hle hcd h1 h6 hlt hs hx0 hS hsize
    go_enter Try.func9, Try.ntmps9
    go_wp2_with fail
    refine (H0.out _).mono ?_
    rintro en w0 ⟨rfl, hb0⟩
    go_wp2_with fail
    refine (HSZ.out _).mono ?_
    rintro en w1 ⟨rfl, hb1⟩
    go_wp2_with fail
    refine (HR.out _).mono ?_
    rintro en w2 ⟨rfl, rfl⟩
    go_wp2_with fail
    refine (awake_true _).mono ?_
    rintro en w4 ⟨rfl, hb4⟩
    go_wp2_with fail
    go_ret
    exact ⟨rfl, bel2 (bel2 hb0 hb1) hb4⟩
  · rw [if_neg hlt] at hcd
    have hlI : ¬ (n : Int) < (s.size : Int) := by omega
    have hxI : ¬ (128 : Int) ≤ (x : Int) := by omega
    clear hnl hby hns hrd hle hcd h1 h6 hlt hs hx0 hS hsize
    go_enter Try.func9, Try.ntmps9
    go_wp2_with fail
    refine (H0.out _).mono ?_
    rintro en w0 ⟨rfl, hb0⟩
    go_wp2_with fail
    refine (HSZ.out _).mono ?_
    rintro en w1 ⟨rfl, hb1⟩
    go_wp2_with fail
    refine (HR.out _).mono ?_
    rintro en w2 ⟨rfl, rfl⟩
    go_wp2_with fail
    refine (awake_true _).mono ?_
    rintro en w4 ⟨rfl, hb4⟩
    go_wp2_with fail
    go_ret
    exact ⟨rfl, bel2 (bel2 hb0 hb1) hb4⟩
end Go.Proofs.Ytaogmekmampegaa
