/- prim.ReadStr, walked: it reads as the plain law does. -/
import Derived.Test.YtmjibpjnhehnnaaPg
import Derived.Test.YtmjibpjnhehnnaaPd
import Derived.Test.YtmjibpjnhehnnaaHd
namespace Go.Proofs.Ytmjibpjnhehnnaa
open Go.RowKit
attribute [local go_sem ↓] Go.wp_at_zero Go.wp_at_succ

theorem and_128 : ∀ x, x < 256 → bits .and .u8 ((x : Nat) : Int) 128 = (if 128 ≤ x then 128 else 0) := by decide +kernel
theorem nats_cut (c : ByteArray) (i k : Nat) : nats (c.extract i (i + k)) = ((nats c).drop i).take k := by
  simp only [nats, ByteArray.data_extract, Array.toList_extract, List.extract_eq_take_drop, List.map_take, List.map_drop, Nat.add_sub_cancel_left]
theorem decode_as (s : ByteArray) (most : Int) (m : Nat) (hm : (max most 0).toNat = m) (t : List Nat) (e : Nat) (h : Hf.decode (nats s) m = (t, e)) (hs : s.size ≤ 17592186044416) (w : World) :
    Calls Try.prog 84 #[.string s, .int .i64 most] w fun en w' => en = .returned (.tuple #[.string (strN t), .int .i64 (e : Int)]) ∧ Below w.heap.size w w' := by
  have := decode_any s most w hs
  rw [hm, h] at this
  exact this

set_option maxRecDepth 100000 in
set_option maxHeartbeats 2000000 in
theorem readStr_any (s : ByteArray) (most : Int) (M : Nat) (r : List Nat × Nat × Nat) (w : World) (hM : (max most 0).toNat = M) (hr : Pr.readStr (nats s) M = r) (hs : s.size ≤ 1152921504606846976) :
    Calls Try.prog 77 #[.string s, .int .i64 most] w fun e w' => e = .returned (.tuple #[.string (strN r.1), .int .i64 (r.2.1 : Int), .int .i64 (r.2.2 : Int)]) ∧ Below w.heap.size w w' := by
  have hmax := max_as most M hM
  obtain ⟨n, at1, e, hR⟩ : ∃ n at1 e, Pr.read (nats s) 128 = (n, at1, e) := ⟨_, _, _, rfl⟩
  have hri : ∀ w, Calls Try.prog 61 #[.string s, .int .i64 7] w fun en w' => en = .returned (.tuple #[.int .i64 (n : Int), .int .i64 (at1 : Int), .int .i64 (e : Int)]) ∧ w = w' := fun w => readInt_good s 7 128 (n, at1, e) w (by omega) (by omega) rfl hR
  have HRI := Lib.hid hri
  clear hri
  have hbd := Pr.read_bound (nats s) 128 (by omega)
  rw [hR, nats_length] at hbd
  unfold Pr.readStr at hr
  simp only [hR, nats_length] at hr
  by_cases he : e = 0
  · subst he
    obtain ⟨hn, hat1, hat0⟩ := hbd rfl
    simp only at hn hat1 hat0
    rw [if_neg (by simp)] at hr
    have hx0 := getD_nats s 0 (by omega)
    have hix : ∀ w, (Instr.index 9 (.string s) (.int .i64 0)).run Try.prog w = .ok (.int .u8 (((nats s).getD 0 0 : Nat) : Int)) w := fun w => run_index_nat Try.prog 9 Try.underlying9 s 0 (by omega) w
    generalize (nats s).getD 0 0 = x at hix hx0 hr
    have hand := and_128 x hx0
    have hws : IntKind.i64.wrap ((s.size : Int) - (at1 : Int)) = ((s.size - at1 : Nat) : Int) := by rw [IntWalk.i64_in _ (by omega)]; omega
    have hwa : IntKind.i64.wrap ((at1 : Int) + (n : Int)) = ((at1 + n : Nat) : Int) := by rw [IntWalk.i64_in _ (by omega)]; omega
    have hmx := max_as (M : Int) M (by omega)
    have HDC := Lib.hid (fun (t : List Nat) (e : Nat) (h : Hf.decode (((nats s).drop at1).take n) M = (t, e)) (hz : (s.extract at1 (at1 + n)).size ≤ 17592186044416) (w : World) => decode_as (s.extract at1 (at1 + n)) (M : Int) M (by omega) t e (by rw [nats_cut]; exact h) hz w)
    have hcsz : (s.extract at1 (at1 + n)).size ≤ 2147483647 := by
      rw [← nats_length, nats_cut, List.length_take, List.length_drop, nats_length]
      omega
    have HCS := Lib.hid hcsz
    have hcn : strN (((nats s).drop at1).take n) = s.extract at1 (at1 + n) := by rw [← nats_cut, strN_nats]
    have HCN := Lib.hid hcn
    clear hcsz hcn
    by_cases hc : 128 ≤ x
    · simp only [if_pos hc] at hr hand
      have h3 : IntKind.i64.wrap ((n : Int) + 3) = ((n + 3 : Nat) : Int) := IntWalk.i64_in _ (by omega)
      have h4 : IntKind.i64.wrap (((n + 3 : Nat) : Int) / 4) = (((n + 3) / 4 : Nat) : Int) := IntWalk.i64_in _ (by omega)
      generalize (n + 3) / 4 = L at h4 hr
      generalize n + 3 = n3 at h3 h4
      by_cases hL : M < L
      · rw [if_pos hL] at hr
        subst hr
        have hLI : (M : Int) < (L : Int) := by omega
        clear hR hbd hM hs hn hat1 hat0 hx0 hc hL
        go_enter Try.func77, Try.ntmps77
        go_wp2_with fail
        refine (HRI.out _).mono ?_
        rintro en w1 ⟨rfl, rfl⟩
        go_wp2
        go_ret3
        exact ⟨rfl, Below.refl _ _⟩
      · rw [if_neg hL] at hr
        have hLI : ¬ (M : Int) < (L : Int) := by omega
        by_cases hd : s.size - at1 < n
        · rw [if_pos hd] at hr
          subst hr
          have hdI : ((s.size - at1 : Nat) : Int) < (n : Int) := by omega
          generalize s.size - at1 = d at hws hdI
          clear hR hbd hM hs hn hat1 hat0 hx0 hc hL hd
          go_enter Try.func77, Try.ntmps77
          go_wp2_with fail
          refine (HRI.out _).mono ?_
          rintro en w1 ⟨rfl, rfl⟩
          go_wp2
          go_ret3
          exact ⟨rfl, Below.refl _ _⟩
        · rw [if_neg hd] at hr
          have hdI : ¬ ((s.size - at1 : Nat) : Int) < (n : Int) := by omega
          have hcut := fun w => run_slice_string (P := Try.prog) w 9 s .i64 .i64 (at1 : Int) ((at1 + n : Nat) : Int) Try.underlying9 (by omega) (by omega) (by omega)
          rw [Int.toNat_natCast, Int.toNat_natCast] at hcut
          obtain ⟨t, e, hdec⟩ : ∃ t e, Hf.decode (((nats s).drop at1).take n) M = (t, e) := ⟨_, _, rfl⟩
          rw [hdec] at hr
          have HD := Lib.hid hdec
          generalize s.size - at1 = d at hws hdI
          have hi0 : (0 : Int) ≤ (at1 : Int) := by omega
          have hi1 : (at1 : Int) ≤ ((at1 + n : Nat) : Int) := by omega
          have hi2 : ((at1 + n : Nat) : Int) ≤ (s.size : Int) := by omega
          generalize hj : at1 + n = j at hwa hcut hr HDC HCS HCN hi1 hi2
          clear hR hbd hM hs hn hat1 hat0 hx0 hc hL hd hj hdec
          by_cases he : e = 0
          · subst he
            simp only [ne_eq, not_true_eq_false, if_false] at hr
            subst hr
            go_enter Try.func77, Try.ntmps77
            go_wp2_with fail
            refine (HRI.out _).mono ?_
            rintro en w1 ⟨rfl, rfl⟩
            go_wp2_with fail
            refine (HDC.out t 0 HD.out (by have := HCS.out; omega) _).mono ?_
            rintro en w2 ⟨rfl, hb2⟩
            go_wp2
            go_ret3
            exact ⟨rfl, hb2⟩
          · rw [if_pos he] at hr
            subst hr
            have hne : ((e : Int) != 0) = true := by rw [bne_iff_ne]; omega
            generalize hE : (e : Int) = E at hne
            have HE := Lib.hid hE
            clear hE he
            go_enter Try.func77, Try.ntmps77
            go_wp2_with fail
            refine (HRI.out _).mono ?_
            rintro en w1 ⟨rfl, rfl⟩
            go_wp2_with fail
            refine (HDC.out t e HD.out (by have := HCS.out; omega) _).mono ?_
            rintro en w2 ⟨rfl, hb2⟩
            simp only [HE.out]
            go_wp2
            go_ret3
            exact ⟨by rw [← HE.out]; rfl, hb2⟩
    · simp only [if_neg hc] at hr hand
      by_cases hL : M < n
      · rw [if_pos hL] at hr
        subst hr
        have hLI : (M : Int) < (n : Int) := by omega
        clear hR hbd hM hs hn hat1 hat0 hx0 hc hL
        go_enter Try.func77, Try.ntmps77
        go_wp2_with fail
        refine (HRI.out _).mono ?_
        rintro en w1 ⟨rfl, rfl⟩
        go_wp2
        go_ret3
        exact ⟨rfl, Below.refl _ _⟩
      · rw [if_neg hL] at hr
        have hLI : ¬ (M : Int) < (n : Int) := by omega
        by_cases hd : s.size - at1 < n
        · rw [if_pos hd] at hr
          subst hr
          have hdI : ((s.size - at1 : Nat) : Int) < (n : Int) := by omega
          generalize s.size - at1 = d at hws hdI
          clear hR hbd hM hs hn hat1 hat0 hx0 hc hL hd
          go_enter Try.func77, Try.ntmps77
          go_wp2_with fail
          refine (HRI.out _).mono ?_
          rintro en w1 ⟨rfl, rfl⟩
          go_wp2
          go_ret3
          exact ⟨rfl, Below.refl _ _⟩
        · rw [if_neg hd] at hr
          have hdI : ¬ ((s.size - at1 : Nat) : Int) < (n : Int) := by omega
          have hcut := fun w => run_slice_string (P := Try.prog) w 9 s .i64 .i64 (at1 : Int) ((at1 + n : Nat) : Int) Try.underlying9 (by omega) (by omega) (by omega)
          rw [Int.toNat_natCast, Int.toNat_natCast] at hcut
          generalize s.size - at1 = d at hws hdI
          have hi0 : (0 : Int) ≤ (at1 : Int) := by omega
          have hi1 : (at1 : Int) ≤ ((at1 + n : Nat) : Int) := by omega
          have hi2 : ((at1 + n : Nat) : Int) ≤ (s.size : Int) := by omega
          generalize hj : at1 + n = j at hwa hcut hr HDC HCS HCN hi1 hi2
          clear hR hbd hM hs hn hat1 hat0 hx0 hc hL hd hj
          subst hr
          go_enter Try.func77, Try.ntmps77
          go_wp2_with fail
          refine (HRI.out _).mono ?_
          rintro en w1 ⟨rfl, rfl⟩
          go_wp2
          go_ret3
          rw [HCN.out]
          exact ⟨rfl, Below.refl _ _⟩
  · rw [if_pos he] at hr
    subst hr
    have hne : ((e : Int) != 0) = true := by rw [bne_iff_ne]; omega
    have HR := Lib.hid hR
    generalize hE : (e : Int) = E at hne
    have HE := Lib.hid hE
    clear hE he hbd hM hs hR
    go_enter Try.func77, Try.ntmps77
    go_wp2_with fail
    refine (HRI.out _).mono ?_
    rintro en w1 ⟨rfl, rfl⟩
    simp only [HE.out]
    go_wp2
    go_ret3
    exact ⟨by rw [← HE.out]; rfl, Below.refl _ _⟩
end Go.Proofs.Ytmjibpjnhehnnaa
