/- A torn text, or one with a byte more: the walk of HuffTorn. -/
import Derived.Test.YtjgjeokfebpaaaaHx
namespace Go.Proofs.Ytjgjeokfebpaaaa
open Go.RowKit
attribute [local go_sem ↓] Go.wp_at_zero Go.wp_at_succ

theorem empty_of_size {s : ByteArray} (h : s.size = 0) : s = ⟨#[]⟩ := by
  refine nats_inj ?_
  have h1 : nats s = [] := List.eq_nil_of_length_eq_zero (by rw [nats_length]; exact h)
  rw [h1]
  rfl
theorem not_empty {s : ByteArray} (h : 0 < s.size) : (s.toList == ([] : List UInt8)) = false := by
  rw [beq_eq_false_iff_ne]
  intro e
  rw [ByteArray.toList_eq] at e
  have h1 : s.data.toList.length = 0 := by rw [e]; rfl
  rw [Array.length_toList] at h1
  have h2 : s.size = 0 := h1
  omega
/-- A text of one byte. -/
theorem run_text1 (w : World) (m : Nat) (hm : m < 256) : (convert 31 9 (.slice (some ⟨w.heap.size, 0, none⟩) 1 1)).run Try.prog (w.alloc (.cells #[.int .u8 (m : Int)] 5)) = .ok (.string (strN [m])) (w.alloc (.cells #[.int .u8 (m : Int)] 5)) := by
  have h := World.ownsRow_lit (base := w.heap.size) (e := 5) (size := 1) w #[.int .u8 (m : Int)] 1 (Nat.le_refl _) (by unfold maxLen; omega) rfl
  exact run_text (l := [m]) h (by intro x hx; simp at hx; omega)

theorem bel_torn {w w1 w2 w3 w4 : World} {ob : Obj} (h1 : Below w.heap.size w w1) (h2 : Below w1.heap.size w1 w2) (h3 : Below (w2.alloc ob).heap.size (w2.alloc ob) w3) (h4 : Below w3.heap.size w3 w4) : Below w.heap.size w w4 :=
  bel2 (((bel2 h1 h2).alloc (bel2 h1 h2).size ob).trans (h3.mono (by have := (bel2 h1 h2).size; simp; omega))) h4

set_option maxRecDepth 100000 in
set_option maxHeartbeats 2000000 in
theorem huffTorn_true (w : World) (s : ByteArray) (hs : s.size ≤ 1048576) (more : Int) (wf : (Lit.int .u8 more).wf = true) :
    Calls Try.prog 8 #[.string s, .int .u8 more] w fun e w' => e = .returned (.bool true) ∧ Below w.heap.size w w' := by
  by_cases h0 : s.size = 0
  · obtain rfl := empty_of_size h0
    clear h0 hs wf
    go_enter Try.func8, Try.ntmps8
    go_wp2_with fail
    refine (awake_true _).mono ?_
    rintro e w1 ⟨rfl, hb1⟩
    go_wp2_with fail
    go_ret
    exact ⟨rfl, hb1⟩
  · have hm0 : 0 ≤ more ∧ more < 256 := by
      have h2 : IntKind.u8.min ≤ more ∧ more ≤ IntKind.u8.max := by simpa [Lit.wf] using wf
      have h3 : IntKind.u8.min = 0 := by decide
      have h4 : IntKind.u8.max = 255 := by decide
      omega
    obtain ⟨m, rfl⟩ : ∃ m : Nat, more = (m : Int) := ⟨more.toNat, by omega⟩
    have hm : m < 256 := by omega
    have hcv := fun w => run_text1 w m hm
    have hne := not_empty (s := s) (by omega)
    have hl0 : nats s ≠ [] := by
      intro e
      have := nats_length s
      rw [e] at this
      simp at this
      omega
    have hle := encS_le s
    have hbd := Hf.enc_bound (nats s) (nats_byte s)
    rw [nats_length, ← encS_size] at hbd
    have hce := not_empty (s := encS s) (by omega)
    obtain ⟨t, e, hd1⟩ : ∃ t e, Hf.decode ((Hf.enc (nats s)).take ((Hf.enc (nats s)).length - 1)) (nats s).length = (t, e) := ⟨_, _, rfl⟩
    have hr1 := Hf.decode_torn (nats s) (nats_byte s) hl0 t e hd1
    obtain ⟨u, f, hd2⟩ : ∃ u f, Hf.decode (Hf.enc (nats s) ++ [m]) (2 * (nats s).length + 8) = (u, f) := ⟨_, _, rfl⟩
    have hr2 := Hf.decode_more (nats s) (nats_byte s) m u f hd2
    rw [nats_length] at hr1 hr2 hd1 hd2
    rw [← nats_encS, nats_length, ← nats_extract] at hd1
    rw [← nats_encS, ← nats_strN [m] (by intro x hx; simp at hx; omega), ← nats_append] at hd2
    have hsz := size_append' (encS s) (strN [m])
    rw [strN_size] at hsz
    have hsz2 : ((encS s).extract 0 ((encS s).size - 1)).size ≤ (encS s).size := by
      rw [← nats_length, nats_extract, List.length_take, nats_length]
      omega
    have hadd := fun w => run_string_add_sum (P := Try.prog) w (encS s) (strN [m]) (by rw [strN_size]; simp; omega)
    have hcut := fun w => run_slice_string_h (P := Try.prog) w 9 (encS s) Try.underlying9 .i64 (((encS s).size - 1 : Nat) : Int) (by omega) (by omega)
    rw [Int.toNat_natCast] at hcut
    have hc1 : IntKind.i64.wrap (((encS s).size : Int) - 1) = (((encS s).size - 1 : Nat) : Int) := by rw [IntWalk.i64_in _ (by omega)]; omega
    have hdc1 := decode_as _ (s.size : Int) s.size (by omega) (strN t) t e hd1 rfl (by omega)
    have hw1 : IntKind.i64.wrap (2 * (s.size : Int)) = 2 * (s.size : Int) := IntWalk.i64_in _ (by omega)
    have hw2 : IntKind.i64.wrap (2 * (s.size : Int) + 8) = 2 * (s.size : Int) + 8 := IntWalk.i64_in _ (by omega)
    have hdc2 := decode_as _ (2 * (s.size : Int) + 8) (2 * s.size + 8) (by omega) (strN u) u f hd2 rfl (by rw [hsz]; simp; omega)
    have henc := encode_as s _ rfl (by omega)
    have hts := strN_size t
    have hus := strN_size u
    rw [← hts] at hr1
    rw [← hus] at hr2
    have HDC1 := Lib.hid hdc1
    have HDC2 := Lib.hid hdc2
    have HENC := Lib.hid henc
    clear hdc1 hdc2 henc hd1 hd2 hsz hsz2 hle hbd hts hus hl0
    generalize encS s = c at *
    generalize strN t = T at *
    generalize strN u = U at *
    generalize strN [m] = one at *
    generalize c.extract 0 (c.size - 1) = cc at *
    generalize c ++ one = c1 at *
    have hs1 : (c.size : Int) - 1 ≤ (c.size : Int) := by omega
    generalize c.size - 1 = k at *
    obtain ⟨hf3, hf0⟩ := hr2
    have hk : (0 : Int) ≤ (k : Int) := by omega
    clear h0 hs wf hm hm0
    by_cases hz : f = 0
    · subst hz
      have hgt := hf0 rfl
      have hgt1 : ¬ (U.size : Int) ≤ (s.size : Int) := by omega
      clear hf0 hf3 hgt
      rcases hr1 with ⟨rfl, hlt⟩ | rfl
      · have hlt1 : ¬ (s.size : Int) ≤ (T.size : Int) := by omega
        clear hlt
        go_enter Try.func8, Try.ntmps8
        go_wp2_with fail
        refine (HENC.out _).mono ?_
        rintro e w1 ⟨rfl, hb1⟩
        go_wp2_with fail
        refine (HDC1.out _).mono ?_
        rintro e w2 ⟨rfl, hb2⟩
        go_wp2_with fail
        refine (HDC2.out _).mono ?_
        rintro e w3 ⟨rfl, hb3⟩
        go_wp2_with fail
        refine (awake_true _).mono ?_
        rintro e w4 ⟨rfl, hb4⟩
        go_wp2_with fail
        go_ret
        exact ⟨rfl, bel_torn hb1 hb2 hb3 hb4⟩
      · skip
        go_enter Try.func8, Try.ntmps8
        go_wp2_with fail
        refine (HENC.out _).mono ?_
        rintro e w1 ⟨rfl, hb1⟩
        go_wp2_with fail
        refine (HDC1.out _).mono ?_
        rintro e w2 ⟨rfl, hb2⟩
        go_wp2_with fail
        refine (HDC2.out _).mono ?_
        rintro e w3 ⟨rfl, hb3⟩
        go_wp2_with fail
        refine (awake_true _).mono ?_
        rintro e w4 ⟨rfl, hb4⟩
        go_wp2_with fail
        go_ret
        exact ⟨rfl, bel_torn hb1 hb2 hb3 hb4⟩
    · have hz1 : ((f : Int) == 0) = false := by rw [beq_eq_false_iff_ne]; omega
      have hz3 : ((f : Int) == 3) = false := by rw [beq_eq_false_iff_ne]; omega
      have hz4 : ((f : Int) != 3) = true := by rw [bne_iff_ne]; omega
      clear hf0 hf3 hz
      generalize (f : Int) = F at *
      rcases hr1 with ⟨rfl, hlt⟩ | rfl
      · have hlt1 : ¬ (s.size : Int) ≤ (T.size : Int) := by omega
        clear hlt
        go_enter Try.func8, Try.ntmps8
        go_wp2_with fail
        refine (HENC.out _).mono ?_
        rintro e w1 ⟨rfl, hb1⟩
        go_wp2_with fail
        refine (HDC1.out _).mono ?_
        rintro e w2 ⟨rfl, hb2⟩
        go_wp2_with fail
        refine (HDC2.out _).mono ?_
        rintro e w3 ⟨rfl, hb3⟩
        go_wp2_with fail
        refine (awake_true _).mono ?_
        rintro e w4 ⟨rfl, hb4⟩
        go_wp2_with fail
        go_ret
        exact ⟨rfl, bel_torn hb1 hb2 hb3 hb4⟩
      · skip
        go_enter Try.func8, Try.ntmps8
        go_wp2_with fail
        refine (HENC.out _).mono ?_
        rintro e w1 ⟨rfl, hb1⟩
        go_wp2_with fail
        refine (HDC1.out _).mono ?_
        rintro e w2 ⟨rfl, hb2⟩
        go_wp2_with fail
        refine (HDC2.out _).mono ?_
        rintro e w3 ⟨rfl, hb3⟩
        go_wp2_with fail
        refine (awake_true _).mono ?_
        rintro e w4 ⟨rfl, hb4⟩
        go_wp2_with fail
        go_ret
        exact ⟨rfl, bel_torn hb1 hb2 hb3 hb4⟩
end Go.Proofs.Ytjgjeokfebpaaaa
