/- A representation is read: walked. -/
import Derived.Test.YtmjibpjnhehnnaaKh
import Derived.BigQuiet
import Derived.Deep.CutBlock
import Derived.Deep.QuietTactic
namespace Go.Proofs.Ytmjibpjnhehnnaa
open Go.RowKit
attribute [local go_sem ↓] Go.wp_at_zero Go.wp_at_succ

set_option maxRecDepth 100000 in
theorem room_any (w : World) (d b s m : Nat) (g : Option Nat) (l : List Tk.Fd) (hT : Tab w b g l s m) (hc : w.cell? ⟨d, 0, none⟩ = some (.pointer (some ⟨b, 0, none⟩))) :
    Calls Try.prog 30 #[.pointer (some ⟨d, 0, none⟩)] w fun e w' => e = .returned (.int .i64 (m : Int)) ∧ w = w' := by
  have HM := Lib.hid (most_any w b s m g l hT)
  clear hT
  go_enter Try.func30, Try.ntmps30
  go_wp2_with fail
  refine HM.out.mono ?_
  rintro e w2 ⟨rfl, rfl⟩
  go_wp2
  go_ret
  exact ⟨rfl, rfl⟩
set_option maxRecDepth 100000 in
theorem tsize_any (w : World) (d b s m : Nat) (g : Option Nat) (l : List Tk.Fd) (hT : Tab w b g l s m) (hc : w.cell? ⟨d, 0, none⟩ = some (.pointer (some ⟨b, 0, none⟩))) :
    Calls Try.prog 28 #[.pointer (some ⟨d, 0, none⟩)] w fun e w' => e = .returned (.int .i64 (s : Int)) ∧ w = w' := by
  have HM := Lib.hid (tabsize_any w b s m g l hT)
  clear hT
  go_enter Try.func28, Try.ntmps28
  go_wp2_with fail
  refine HM.out.mono ?_
  rintro e w2 ⟨rfl, rfl⟩
  go_wp2
  go_ret
  exact ⟨rfl, rfl⟩

set_option maxRecDepth 100000 in
set_option maxHeartbeats 4000000 in
theorem next_any (w0 w : World) (b d : Nat) (g0 : Option Nat) (r lst lim : Nat) (s : Hk.Rd) (h : Rk w0 b d g0 r lst lim [] s w) (hlim : lim ≤ 65536) (hne : s.rest ≠ []) (hB : Hk.Bd 70368744177664 s) :
    Calls Try.prog 27 #[.pointer (some ⟨r, 0, none⟩)] w fun e w' => e = .returned (.int .i64 ((Hk.next lst lim s).1 : Nat)) ∧ Rk w0 b d g0 r lst lim [] (Hk.next lst lim s).2 w' := by
  obtain ⟨bs, hbs⟩ : ∃ bs, Hk.bits (s.rest.getD 0 0) = bs := ⟨_, rfl⟩
  obtain ⟨n, k, e, hn⟩ : ∃ n k e, Hk.num s = (n, k, e) := ⟨_, _, _, rfl⟩
  have hnx : Hk.next lst lim s = if e ≠ 0 then (e, Hk.behind s k) else Hk.after lst lim bs n (Hk.behind s k) := by unfold Hk.next; rw [hn, hbs]
  have hu := Hk.num_used s
  have hnb : e = 0 → n ≤ 2147483647 := by
    intro he
    have h1 : (Pr.read s.rest (2 ^ Hk.bits (s.rest.getD 0 0))) = (n, k, e) := hn
    have h2 := Pr.read_bound s.rest (2 ^ Hk.bits (s.rest.getD 0 0)) (Hk.pow_bits _).1 (by rw [h1]; exact he)
    rw [h1] at h2
    exact h2.1
  have hB2 : e = 0 → Hk.Bd 70368743915520 (Hk.behind s k) := fun he => Hk.behind_bd (C := 70368743915520) hB (by have := hu.2; rw [hn] at this; exact this he) (by have := hu.1; rw [hn] at this; exact this)
  have hbl := Hk.bits_le (s.rest.getD 0 0)
  rw [hbs] at hbl
  have hlen : 0 < s.rest.length := List.length_pos_iff.2 hne
  have hidx : ∀ w, (Instr.index 9 (.string (strN s.rest)) (.int .i64 0)).run Try.prog w = .ok (.int .u8 ((s.rest.getD 0 0 : Nat) : Int)) w := by
    intro w
    have := run_index_nat Try.prog 9 Try.underlying9 (strN s.rest) 0 (by rw [strN_size]; exact hlen) w
    rw [nats_strN _ hB.byte] at this
    exact this
  have HNUM := Lib.hid (fun (w : World) (h : Rk w0 b d g0 r lst lim [] s w) => number_any w0 w b d g0 r lst lim [] s h hB.byte bs n k e hbs hn)
  have HNX := Lib.hid hnx
  have HBS := Lib.hid hbs
  have hf : s.rest.getD 0 0 < 256 := by
    rw [List.getD_eq_getElem?_getD, List.getElem?_eq_getElem hlen]
    exact hB.byte _ (List.getElem_mem _)
  have hc1 : w.cell? ⟨r, 1, none⟩ = some (.string (strN s.rest)) := by obtain ⟨g, v, hT, hd, hr, _⟩ := h; exact bcell_of hr 1 _ rfl
  generalize s.rest.getD 0 0 = f0 at *
  clear hnx hn hu hbs
  go_enter Try.func27, Try.ntmps27
  go_upto_block 0 with fail
  clear hidx hc1
  go_cut [4] (fun s4 wx => s4 = .int .i64 (bs : Int) ∧ w = wx)
  case first =>
    by_cases h7 : 128 ≤ f0
    · have hb7 : bs = 7 := by rw [← HBS.out]; unfold Hk.bits; rw [if_pos h7]
      subst hb7
      have hI : (128 : Int) ≤ (f0 : Int) := by omega
      go_wp2
      go_meet
      exact ⟨rfl, rfl⟩
    · by_cases h6 : 64 ≤ f0
      · have hb6 : bs = 6 := by rw [← HBS.out]; unfold Hk.bits; rw [if_neg h7, if_pos h6]
        subst hb6
        have hI : ¬ (128 : Int) ≤ (f0 : Int) := by omega
        have hI2 : (64 : Int) ≤ (f0 : Int) := by omega
        go_wp2
        go_meet
        exact ⟨rfl, rfl⟩
      · by_cases h5 : 32 ≤ f0
        · have hb5 : bs = 5 := by rw [← HBS.out]; unfold Hk.bits; rw [if_neg h7, if_neg h6, if_pos h5]
          subst hb5
          have hI : ¬ (128 : Int) ≤ (f0 : Int) := by omega
          have hI2 : ¬ (64 : Int) ≤ (f0 : Int) := by omega
          have hI3 : (32 : Int) ≤ (f0 : Int) := by omega
          go_wp2
          go_meet
          exact ⟨rfl, rfl⟩
        · have hb4 : bs = 4 := by rw [← HBS.out]; unfold Hk.bits; rw [if_neg h7, if_neg h6, if_neg h5]
          subst hb4
          have hI : ¬ (128 : Int) ≤ (f0 : Int) := by omega
          have hI2 : ¬ (64 : Int) ≤ (f0 : Int) := by omega
          have hI3 : ¬ (32 : Int) ≤ (f0 : Int) := by omega
          go_wp2
          go_meet
          exact ⟨rfl, rfl⟩
  case rest =>
    obtain ⟨rfl, rfl⟩ := hcut
    clear hf
    go_wp2_with fail
    refine (HNUM.out w h).mono ?_
    rintro en w2 ⟨rfl, hR2⟩
    clear h
    by_cases he : e = 0
    · have hnn := hnb he
      have hB3 := hB2 he
      clear hnb hB2
      subst he
      have hnx := HNX.out
      rw [if_neg (by simp)] at hnx
      have HNY := Lib.hid hnx
      clear hnx HNX HNUM
      have hs3 : Tk.sum (Hk.behind s k).l ≤ (Hk.behind s k).m := hB3.tab
      have hm3 : (Hk.behind s k).m ≤ 65536 := hB3.room
      have hw3 := hB3.weight
      have ho3 := hB3.out
      generalize Hk.behind s k = t at *
      by_cases h5 : bs = 5
      · subst h5
        go_wp2_with fail
        refine (rdresize_any w0 w2 b d g0 r lst lim [] t hR2 n (by omega) hlim).mono ?_
        rintro en w3 ⟨rfl, hR3⟩
        go_wp2
        go_ret
        rw [HNY.out]
        exact ⟨rfl, hR3⟩
      · have h5I : ((bs : Int) == 5) = false := by rw [beq_eq_false_iff_ne]; omega
        have hc0 : w2.cell? ⟨r, 0, none⟩ = some (.pointer (some ⟨d, 0, none⟩)) := by obtain ⟨g, v, hT, hd, hr, _⟩ := hR2; exact bcell_of hr 0 _ rfl
        have hd0 : w2.cell? ⟨d, 0, none⟩ = some (.pointer (some ⟨b, 0, none⟩)) := by obtain ⟨g, v, hT, hd, hr, _⟩ := hR2; exact bcell_of hd 0 _ rfl
        have hd2 : w2.cell? ⟨d, 2, none⟩ = some (.int .i64 (lim : Int)) := by obtain ⟨g, v, hT, hd, hr, _⟩ := hR2; exact bcell_of hd 2 _ rfl
        have HRM := Lib.hid (fun (w' : World) (h : Below w2.heap.size w2 w') => show Calls Try.prog 30 #[.pointer (some ⟨d, 0, none⟩)] w' (fun e w'' => e = .returned (.int .i64 (t.m : Int)) ∧ w'' = w') from by
          have hR := hR2.below h
          obtain ⟨g, v, hT, hd, hr, _⟩ := hR
          exact (room_any w' d b _ t.m g t.l hT (bcell_of hd 0 _ rfl)).mono fun e w'' h => ⟨h.1, h.2.symm⟩)
        have HBS5 := Lib.hid h5
        clear h5
        by_cases hlm : lim < t.m
        · have hlI : (lim : Int) < (t.m : Int) := by omega
          have HLM := Lib.hid hlm
          clear hlm
          go_wp2
          go_quiet ((go_at_call 30; exact Calls.quiet_of_same (HRM.out _ ⟨rfl, rfl, rfl, Nat.le_refl _, fun _ _ => rfl⟩)))
          go_wp2
          go_ret
          rw [HNY.out]
          unfold Hk.after
          rw [if_neg HBS5.out, if_pos HLM.out]
          exact ⟨rfl, hR2.drewN nq⟩
        · have hlI : ¬ (lim : Int) < (t.m : Int) := by omega
          have HLM := Lib.hid hlm
          clear hlm
          go_wp2
          go_quiet ((go_at_call 30; exact Calls.quiet_of_same (HRM.out _ ⟨rfl, rfl, rfl, Nat.le_refl _, fun _ _ => rfl⟩)))
          have hR3 := hR2.drewN nq
          clear hR2 hc0 hd0 hd2 HRM
          generalize w2.drewN nq = w3 at *
          by_cases h7 : bs = 7
          · subst h7
            go_wp2_with fail
            refine (indexed_any w0 w3 b d g0 r lst lim [] t hR3 n hnn (by omega) ho3 hs3 hm3).mono ?_
            rintro en w4 ⟨rfl, hR4⟩
            go_wp2
            go_ret
            have ha : Hk.after lst lim 7 n t = idxd lst n t := by
              unfold Hk.after idxd
              rw [if_neg (by omega), if_neg HLM.out, if_pos rfl]
            rw [HNY.out, ha]
            exact ⟨rfl, hR4⟩
          · have h7I : ((bs : Int) == 7) = false := by rw [beq_eq_false_iff_ne]; omega
            have ha : Hk.after lst lim bs n t = Hk.spelt lst n (bs == 6) t := by
              unfold Hk.after
              rw [if_neg HBS5.out, if_neg HLM.out, if_neg h7]
            have h64 : bs = 6 ∨ bs = 4 := by have := HBS5.out; omega
            have HA := Lib.hid ha
            clear ha h7
            rcases h64 with rfl | rfl
            · go_wp2_with fail
              refine (spelt_any w0 w3 b d g0 r lst lim t hR3 n hnn true (hB3.mono (by omega))).mono ?_
              rintro en w4 ⟨rfl, hR4⟩
              go_wp2
              go_ret
              rw [HNY.out, HA.out]
              exact ⟨rfl, hR4⟩
            · go_wp2_with fail
              refine (spelt_any w0 w3 b d g0 r lst lim t hR3 n hnn false (hB3.mono (by omega))).mono ?_
              rintro en w4 ⟨rfl, hR4⟩
              go_wp2
              go_ret
              rw [HNY.out, HA.out]
              exact ⟨rfl, hR4⟩
    · have he1 : ((e : Int) == 0) = false := by rw [beq_eq_false_iff_ne]; omega
      have he2 : ((e : Int) != 0) = true := by rw [bne_iff_ne]; omega
      have HE := Lib.hid he
      clear he hnb hB2
      go_wp2
      go_ret
      have hnx := HNX.out
      rw [if_pos HE.out] at hnx
      rw [hnx]
      exact ⟨rfl, hR2⟩
end Go.Proofs.Ytmjibpjnhehnnaa
