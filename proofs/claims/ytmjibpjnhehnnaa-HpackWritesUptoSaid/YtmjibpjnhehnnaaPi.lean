/- prim.Str, walked: it writes as the plain law does. -/
import Derived.Test.YtmjibpjnhehnnaaPh
import Derived.Test.YtmjibpjnhehnnaaHe
namespace Go.Proofs.Ytmjibpjnhehnnaa
open Go.RowKit
attribute [local go_sem ↓] Go.wp_at_zero Go.wp_at_succ

/-- The coded text. -/
def encS (s : ByteArray) : ByteArray := strN (Hf.enc (nats s))
theorem nats_encS (s : ByteArray) : nats (encS s) = Hf.enc (nats s) := nats_strN _ (Hf.enc_byte _)
theorem encS_size (s : ByteArray) : (encS s).size = (Hf.enc (nats s)).length := strN_size _
theorem strN_append (a b : List Nat) : strN a ++ strN b = strN (a ++ b) := by
  apply ByteArray.ext
  simp only [strN, ByteArray.data_append, List.map_append]
  simp
theorem bel2 {w w1 w2 : World} (h1 : Below w.heap.size w w1) (h2 : Below w1.heap.size w1 w2) : Below w.heap.size w w2 := h1.trans (h2.mono h1.size)
theorem int_at (h : Nat) (hh : h < 256) (hm : h % 128 = 0) (n : Nat) (hn : n ≤ 2147483647) (w : World) :
    Calls Try.prog 49 #[.int .u8 (h : Int), .int .i64 7, .int .i64 (n : Int)] w fun e w' => e = .returned (.tuple #[.string (strN (Pr.int h 128 n)), .int .i64 0]) ∧ Below w.heap.size w w' := by
  have := int_good h 7 n 128 w (by omega) (by omega) hh hn rfl
  rw [show Pr.wInt h 128 n = (Pr.int h 128 n, 0) from if_pos hm] at this
  exact this

set_option maxRecDepth 100000 in
set_option maxHeartbeats 2000000 in
theorem str_any (s : ByteArray) (w : World) (hs : s.size ≤ 2147483647) :
    Calls Try.prog 51 #[.string s] w fun e w' => e = .returned (.string (strN (Pr.str (nats s)))) ∧ Below w.heap.size w w' := by
  have hsize := size_any s
  rw [← encS_size] at hsize
  have henc : ∀ w, Calls Try.prog 68 #[.string s] w fun e w' => e = .returned (.string (encS s)) ∧ Below w.heap.size w w' := fun w => encode_any s w (by omega)
  have HSZ := Lib.hid hsize
  have HENC := Lib.hid henc
  clear hsize henc
  by_cases hlt : (encS s).size < s.size
  · have hstr : Pr.str (nats s) = Pr.int 128 128 (encS s).size ++ nats (encS s) := by
      unfold Pr.str
      rw [← encS_size, nats_length, if_pos hlt, nats_encS]
    rw [hstr, ← strN_append, strN_nats]
    have hI : ((encS s).size : Int) < (s.size : Int) := by omega
    have HINT := Lib.hid (int_at 128 (by omega) rfl (encS s).size (by omega))
    have hil := Pr.int_len 128 128 (encS s).size (by omega)
    have hadd := fun w => run_string_add_sum (P := Try.prog) w (strN (Pr.int 128 128 (encS s).size)) (encS s) (by rw [strN_size]; omega)
    clear hstr
    generalize strN (Pr.int 128 128 (encS s).size) = N at *
    generalize encS s = c at *
    have HS := Lib.hid hs
    clear hil hlt hs
    go_enter Try.func51, Try.ntmps51
    go_wp2_with fail
    refine (HSZ.out _ (by have := HS.out; omega)).mono ?_
    rintro en w1 ⟨rfl, hb1⟩
    go_wp2_with fail
    refine (HENC.out _).mono ?_
    rintro en w2 ⟨rfl, hb2⟩
    go_wp2_with fail
    refine (HINT.out _).mono ?_
    rintro en w3 ⟨rfl, hb3⟩
    go_wp2
    go_ret
    exact ⟨rfl, bel2 (bel2 hb1 hb2) hb3⟩
  · have hstr : Pr.str (nats s) = Pr.int 0 128 s.size ++ nats s := by
      unfold Pr.str
      rw [← encS_size, nats_length, if_neg hlt]
    rw [hstr, ← strN_append, strN_nats]
    have hI : ¬ ((encS s).size : Int) < (s.size : Int) := by omega
    have HINT := Lib.hid (int_at 0 (by omega) rfl s.size (by omega))
    have hil := Pr.int_len 0 128 s.size (by omega)
    have hadd := fun w => run_string_add_sum (P := Try.prog) w (strN (Pr.int 0 128 s.size)) s (by rw [strN_size]; omega)
    clear hstr
    generalize strN (Pr.int 0 128 s.size) = N at *
    generalize encS s = c at *
    have HS := Lib.hid hs
    clear hil hlt hs
    go_enter Try.func51, Try.ntmps51
    go_wp2_with fail
    refine (HSZ.out _ (by have := HS.out; omega)).mono ?_
    rintro en w1 ⟨rfl, hb1⟩
    go_wp2_with fail
    refine (HINT.out _).mono ?_
    rintro en w3 ⟨rfl, hb3⟩
    go_wp2
    go_ret
    exact ⟨rfl, bel2 hb1 hb3⟩
end Go.Proofs.Ytmjibpjnhehnnaa
