/- HpackNil, walked: no encoder and no decoder do nothing; the limits of both. -/
import Derived.Test.YtmjibpjnhehnnaaKs
namespace Go.Proofs.Ytmjibpjnhehnnaa
open Go.RowKit
attribute [local go_sem ↓] Go.wp_at_zero Go.wp_at_succ

set_option maxRecDepth 100000 in
theorem nil_read (w : World) (s : ByteArray) : Calls Try.prog 10 #[.pointer none, .string s] w fun e w' => e = .returned (.tuple #[.slice none 0 0, .int .i64 2]) ∧ w = w' := by
  go_enter Try.func10, Try.ntmps10
  go_wp2
  go_ret2
  exact ⟨rfl, rfl⟩
set_option maxRecDepth 100000 in
theorem nil_write (w : World) : Calls Try.prog 14 #[.pointer none, .slice none 0 0] w fun e w' => e = .returned (.string ⟨#[]⟩) ∧ w = w' := by
  go_enter Try.func14, Try.ntmps14
  go_wp2
  go_ret
  exact ⟨rfl, rfl⟩
set_option maxRecDepth 100000 in
theorem nil_dlimit (w : World) (n : Int) : Calls Try.prog 23 #[.pointer none, .int .i64 n] w fun e w' => e = .returned (.int .i64 2) ∧ w = w' := by
  go_enter Try.func23, Try.ntmps23
  go_wp2
  go_ret
  exact ⟨rfl, rfl⟩
set_option maxRecDepth 100000 in
theorem nil_elimit (w : World) (n : Int) : Calls Try.prog 17 #[.pointer none, .int .i64 n] w fun e w' => e = .returned (.int .i64 2) ∧ w = w' := by
  go_enter Try.func17, Try.ntmps17
  go_wp2
  go_ret
  exact ⟨rfl, rfl⟩
set_option maxRecDepth 100000 in
theorem nil_dsize (w : World) : Calls Try.prog 11 #[.pointer none] w fun e w' => e = .returned (.int .i64 0) ∧ w = w' := by
  go_enter Try.func11, Try.ntmps11
  go_wp2
  go_ret
  exact ⟨rfl, rfl⟩
set_option maxRecDepth 100000 in
theorem nil_esize (w : World) : Calls Try.prog 20 #[.pointer none] w fun e w' => e = .returned (.int .i64 0) ∧ w = w' := by
  go_enter Try.func20, Try.ntmps20
  go_wp2
  go_ret
  exact ⟨rfl, rfl⟩
/-- Both, new, the decoder first. -/
theorem ED.new2 {w w1 w2 : World} {e d lst : Nat} (hU : Tab w1 (w.heap.size + 1) none [] 0 4096) (hd : w1.heap[d]? = some (.cells (DB (w.heap.size + 1) lst 4096 0) 55 (0, 0))) (hd1 : w.heap.size + 1 < d) (hb1 : Below w.heap.size w w1)
    (hT : Tab w2 (w1.heap.size + 1) none [] 0 4096) (he : w2.heap[e]? = some (.cells (EB (w1.heap.size + 1) 4096 4096) 65 (0, 0))) (he1 : w1.heap.size + 1 < e) (hb2 : Below w1.heap.size w1 w2) :
    ED w (w1.heap.size + 1) e (w.heap.size + 1) d 4096 4096 4096 [] lst 4096 0 4096 [] [] w2 := by
  have h1 := hU.lt
  have h2 := heap_lt hd
  exact ⟨none, none, hT, he, hU.below hb2, (hb2.block d h2).trans hd, by omega, (fun k h => by cases h), ⟨by omega, by omega, by omega, by omega⟩, (fun k h => by cases h), (fun k h => by cases h), hb1.trans (hb2.mono hb1.size), (fun p hp => by cases hp)⟩
/-- What the last line answers. -/
def AllNil (w : World) (e : Ending) (w' : World) : Prop := e = .returned (.bool true) ∧ Below w.heap.size w w'
set_option maxRecDepth 100000 in
set_option maxHeartbeats 8000000 in
theorem nil_true (w : World) (n : Int) (_wf : (Lit.int .i64 n).wf = true) : Calls Try.prog 7 #[.int .i64 n] w (AllNil w) := by
  go_enter Try.func7, Try.ntmps7
  go_wp2_with fail
  refine (nil_read w _).mono ?_
  rintro en wq ⟨rfl, rfl⟩
  go_wp2_with fail
  refine (newDec_good w 1 (by omega)).mono ?_
  rintro en w1 ⟨d, rfl, hd1, hU1, hD1, hb1⟩
  go_wp2_with fail
  refine (newEnc_any w1).mono ?_
  rintro en w2 ⟨e, rfl, he2, hT2, hE2, hb2⟩
  have hED := ED.new2 hU1 hD1 hd1 hb1 hT2 hE2 he2 hb2
  clear hU1 hD1 hd1 hb1 hT2 hE2 he2 hb2
  generalize w.heap.size + 1 = bd at *
  generalize w1.heap.size + 1 = be at *
  go_upto_region 8 with fail
  go_cut [10] (fun s10 wx => s10 = .bool true ∧ Below w.heap.size w wx)
  case first =>
    by_cases h0 : n < 0
    · have h0' : ¬ (0 : Int) ≤ n := by omega
      go_wp2_with fail
      refine (dlimit_bad w2 d n (.inl h0)).mono ?_
      rintro en wq ⟨rfl, rfl⟩
      go_wp2_with fail
      refine (elimit_bad w2 e n (.inl h0)).mono ?_
      rintro en wq ⟨rfl, rfl⟩
      go_wp2
      go_meet
      exact ⟨rfl, hED.size.2⟩
    · obtain ⟨k, rfl⟩ := Int.eq_ofNat_of_zero_le (show 0 ≤ n by omega)
      have h0' : (0 : Int) ≤ (k : Int) := by omega
      by_cases h1 : k ≤ 65536
      · have h1I : (k : Int) ≤ 65536 := by omega
        have h2I : (k : Int) ≤ 4294967295 := by omega
        go_wp2_with fail
        refine (ed_dlimit hED k h1).mono ?_
        rintro en w3 ⟨rfl, hED3⟩
        go_wp2_with fail
        refine (ed_elimit hED3 k _ (Nat.zero_le _) (by omega) rfl).mono ?_
        rintro en w4 ⟨rfl, hED4⟩
        go_wp2
        go_meet
        exact ⟨rfl, hED4.size.2⟩
      · have h1I : ¬ (k : Int) ≤ 65536 := by omega
        by_cases h2 : k ≤ 4294967295
        · have h2I : (k : Int) ≤ 4294967295 := by omega
          go_wp2_with fail
          refine (dlimit_bad w2 d k (.inr (by omega))).mono ?_
          rintro en wq ⟨rfl, rfl⟩
          go_wp2_with fail
          refine (ed_elimit hED k _ (Nat.zero_le _) h2 rfl).mono ?_
          rintro en w4 ⟨rfl, hED4⟩
          go_wp2
          go_meet
          exact ⟨by rw [show decide ((k : Int) ≤ 65536) = false from decide_eq_false (by omega)]; rfl, hED4.size.2⟩
        · have h2I : ¬ (k : Int) ≤ 4294967295 := by omega
          go_wp2_with fail
          refine (dlimit_bad w2 d k (.inr (by omega))).mono ?_
          rintro en wq ⟨rfl, rfl⟩
          go_wp2_with fail
          refine (elimit_bad w2 e k (.inr (by omega))).mono ?_
          rintro en wq ⟨rfl, rfl⟩
          go_wp2
          go_meet
          exact ⟨by rw [show decide ((k : Int) ≤ 65536) = false from decide_eq_false (by omega), show decide ((k : Int) ≤ 4294967295) = false from decide_eq_false (by omega)]; rfl, hED.size.2⟩
  case rest =>
    obtain ⟨rfl, hB⟩ := hcut
    clear hED
    go_wp2_with fail
    refine (awake_true wc).mono ?_
    rintro en w5 ⟨rfl, hb5⟩
    have hB5 := hB.trans (hb5.mono hB.size)
    clear hB hb5
    go_wp2_with fail
    refine (nil_dlimit w5 n).mono ?_
    rintro en wq ⟨rfl, rfl⟩
    go_wp2_with fail
    refine (nil_elimit w5 n).mono ?_
    rintro en wq ⟨rfl, rfl⟩
    go_wp2_with fail
    refine (nil_write w5).mono ?_
    rintro en wq ⟨rfl, rfl⟩
    go_wp2_with fail
    refine (nil_dsize w5).mono ?_
    rintro en wq ⟨rfl, rfl⟩
    go_wp2_with fail
    refine (nil_esize w5).mono ?_
    rintro en wq ⟨rfl, rfl⟩
    go_wp2
    go_ret
    exact ⟨rfl, hB5⟩
theorem hnil_true (w : World) (n : Int) (wf : (Lit.int .i64 n).wf = true) : Calls Try.prog 7 #[.int .i64 n] w fun e w' => e = .returned (.bool true) ∧ Below w.heap.size w w' := nil_true w n wf
end Go.Proofs.Ytmjibpjnhehnnaa
