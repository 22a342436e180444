/- The laws of the code of texts that need no reference: what is coded is read as the same; what is read is coded as it was; joined texts; torn texts. -/
import Derived.Test.YtjgjeokfebpaaaaHk
namespace Go.Proofs.Ytjgjeokfebpaaaa
open Go.RowKit
attribute [local go_sem ↓] Go.wp_at_zero Go.wp_at_succ

/-- The coded text. -/
def encS (s : ByteArray) : ByteArray := strN (Hf.enc (nats s))
theorem nats_encS (s : ByteArray) : nats (encS s) = Hf.enc (nats s) := nats_strN _ (Hf.enc_byte _)
theorem encS_size (s : ByteArray) : (encS s).size = (Hf.enc (nats s)).length := strN_size _
theorem encS_le (s : ByteArray) : (encS s).size ≤ 4 * s.size + 1 := by
  rw [encS_size, Hf.enc_length]
  have := take_bits_le (nats s) (nats_byte s) s.size
  rw [List.take_of_length_le (by rw [nats_length]; exact Nat.le_refl _)] at this
  omega
theorem encode_S (s : ByteArray) (w : World) (hs : s.size ≤ 17592186044416) : Calls Try.prog 11 #[.string s] w fun e w' => e = .returned (.string (encS s)) ∧ Below w.heap.size w w' := encode_any s w hs
theorem size_S (s : ByteArray) (z : Nat) (hz : (encS s).size = z) (w : World) (hs : s.size ≤ 140737488355328) : Calls Try.prog 12 #[.string s] w fun e w' => e = .returned (.int .i64 (z : Int)) ∧ Below w.heap.size w w' := by
  subst hz
  rw [encS_size]
  exact size_any s w hs
theorem bel2 {w w1 w2 : World} (h1 : Below w.heap.size w w1) (h2 : Below w1.heap.size w1 w2) : Below w.heap.size w w2 := h1.trans (h2.mono h1.size)

set_option maxRecDepth 100000 in
set_option maxHeartbeats 2000000 in
theorem huffBack_true (w : World) (s : ByteArray) (hs : s.size ≤ 1048576) (most : Int) (wf : (Lit.int .i64 most).wf = true) :
    Calls Try.prog 5 #[.string s, .int .i64 most] w fun e w' => e = .returned (.bool true) ∧ Below w.heap.size w w' := by
  have hle := encS_le s
  have hdec := Hf.decode_enc (nats s) (nats_byte s) (max most 0).toNat
  rw [nats_length] at hdec
  have hbd := Hf.enc_bound (nats s) (nats_byte s)
  rw [nats_length, ← encS_size] at hbd
  have henc := encode_S s
  have HENC := Lib.hid henc
  have hsz := fun z hz => size_S s z hz
  have HSZ := Lib.hid hsz
  have hdc := fun t e h => decode_at (encS s) most _ t _ e (nats_encS s) rfl h
  have HDC := Lib.hid hdc
  have hst := strN_nats s
  have HST := Lib.hid hst
  clear henc hsz hdc hst
  generalize encS s = c at hle hbd HENC HSZ HDC
  by_cases h : most < (s.size : Int) ∧ 0 < s.size
  · obtain ⟨h1, h2⟩ := h
    rw [if_neg (by omega)] at hdec
    have h2I : (0 : Int) < (s.size : Int) := by omega
    have HDEC := Lib.hid hdec
    have HS := Lib.hid hs
    have HLE := Lib.hid hle
    clear hdec hs hle hbd h2 wf
    go_enter Try.func5, Try.ntmps5
    go_wp2_with fail
    refine (HENC.out _ (by have := HS.out; omega)).mono ?_
    rintro e w1 ⟨rfl, hb1⟩
    go_wp2_with fail
    refine (HDC.out [] 3 HDEC.out (by have := HS.out; have := HLE.out; omega) _).mono ?_
    rintro e w2 ⟨rfl, hb2⟩
    rw [strN_nil]
    go_wp2_with fail
    refine (awake_true _).mono ?_
    rintro e w3 ⟨rfl, hb3⟩
    go_wp2_with fail
    go_ret
    exact ⟨rfl, bel2 (bel2 hb1 hb2) hb3⟩
  · rw [if_pos (by omega)] at hdec
    have HDEC := Lib.hid hdec
    have HS := Lib.hid hs
    have HLE := Lib.hid hle
    have hw5 : IntKind.i64.wrap (5 * (s.size : Int)) = 5 * (s.size : Int) := IntWalk.i64_in _ (by omega)
    have hw8 : IntKind.i64.wrap (8 * (c.size : Int)) = 8 * (c.size : Int) := IntWalk.i64_in _ (by omega)
    have hbI : 5 * (s.size : Int) ≤ 8 * (c.size : Int) := by omega
    clear hdec hs hle hbd wf
    by_cases h1 : most < (s.size : Int)
    · have h2 : ¬ (0 : Int) < (s.size : Int) := by omega
      clear h
      go_enter Try.func5, Try.ntmps5
      go_wp2_with fail
      refine (HENC.out _ (by have := HS.out; omega)).mono ?_
      rintro e w1 ⟨rfl, hb1⟩
      go_wp2_with fail
      refine (HDC.out (nats s) 0 HDEC.out (by have := HS.out; have := HLE.out; omega) _).mono ?_
      rintro e w2 ⟨rfl, hb2⟩
      rw [HST.out]
      go_wp2_with fail
      refine (awake_true _).mono ?_
      rintro e w3 ⟨rfl, hb3⟩
      go_wp2_with fail
      refine (HSZ.out c.size rfl _ (by have := HS.out; omega)).mono ?_
      rintro e w4 ⟨rfl, hb4⟩
      go_wp2_with fail
      go_ret
      exact ⟨rfl, bel2 (bel2 (bel2 hb1 hb2) hb3) hb4⟩
    · clear h
      go_enter Try.func5, Try.ntmps5
      go_wp2_with fail
      refine (HENC.out _ (by have := HS.out; omega)).mono ?_
      rintro e w1 ⟨rfl, hb1⟩
      go_wp2_with fail
      refine (HDC.out (nats s) 0 HDEC.out (by have := HS.out; have := HLE.out; omega) _).mono ?_
      rintro e w2 ⟨rfl, hb2⟩
      rw [HST.out]
      go_wp2_with fail
      refine (awake_true _).mono ?_
      rintro e w3 ⟨rfl, hb3⟩
      go_wp2_with fail
      refine (HSZ.out c.size rfl _ (by have := HS.out; omega)).mono ?_
      rintro e w4 ⟨rfl, hb4⟩
      go_wp2_with fail
      go_ret
      exact ⟨rfl, bel2 (bel2 (bel2 hb1 hb2) hb3) hb4⟩

theorem decode_as (s : ByteArray) (most : Int) (m : Nat) (hm : (max most 0).toNat = m) (T : ByteArray) (t : List Nat) (e : Nat) (h : Hf.decode (nats s) m = (t, e)) (hT : strN t = T) (hs : s.size ≤ 17592186044416) (w : World) :
    Calls Try.prog 13 #[.string s, .int .i64 most] w fun en w' => en = .returned (.tuple #[.string T, .int .i64 (e : Int)]) ∧ Below w.heap.size w w' := by
  subst hT
  exact decode_at s most _ t m e rfl hm h hs w
theorem encode_as (s : ByteArray) (T : ByteArray) (hT : encS s = T) (hs : s.size ≤ 17592186044416) (w : World) :
    Calls Try.prog 11 #[.string s] w fun e w' => e = .returned (.string T) ∧ Below w.heap.size w w' := by
  subst hT
  exact encode_S s w hs

set_option maxRecDepth 100000 in
set_option maxHeartbeats 2000000 in
theorem huffThere_true (w : World) (s : ByteArray) (hs : s.size ≤ 1048576) :
    Calls Try.prog 6 #[.string s] w fun e w' => e = .returned (.bool true) ∧ Below w.heap.size w w' := by
  have hw2 : IntKind.i64.wrap (2 * (s.size : Int)) = 2 * (s.size : Int) := IntWalk.i64_in _ (by omega)
  have hm : (max (2 * (s.size : Int)) 0).toNat = 2 * s.size := by omega
  obtain ⟨t, e, hd⟩ : ∃ t e, Hf.decode (nats s) (2 * s.size) = (t, e) := ⟨_, _, rfl⟩
  have hdc := fun T hT => decode_as s (2 * (s.size : Int)) _ hm T t e hd hT (by omega)
  have HDC := Lib.hid hdc
  clear hdc
  by_cases he : e = 0
  · subst he
    obtain ⟨hb, ht⟩ := Hf.enc_decode (nats s) (nats_byte s) _ t hd
    have hbd := Hf.enc_bound t hb
    rw [ht, nats_length] at hbd
    have henc : encS (strN t) = s := by rw [encS, nats_strN _ hb, ht, strN_nats]
    have hts := strN_size t
    have HENC := Lib.hid henc
    generalize hT : strN t = T at HENC hts
    have HB := Lib.hid hbd
    have HTS := Lib.hid hts
    have HS := Lib.hid hs
    have HT := Lib.hid hT
    clear hbd hts hs hT henc hd hb ht hm
    go_enter Try.func6, Try.ntmps6
    go_wp2_with fail
    refine (HDC.out T HT.out _).mono ?_
    rintro e w1 ⟨rfl, hb1⟩
    go_wp2_with fail
    refine (awake_true _).mono ?_
    rintro e w2 ⟨rfl, hb2⟩
    go_wp2_with fail
    refine (encode_as T s HENC.out (by have := HB.out; have := HTS.out; have := HS.out; omega) _).mono ?_
    rintro e w3 ⟨rfl, hb3⟩
    go_wp2_with fail
    go_ret
    exact ⟨rfl, bel2 (bel2 hb1 hb2) hb3⟩
  · have hd2 := hd
    rw [← nats_length] at hd2
    obtain ⟨rfl, he2⟩ := Hf.decode_there (nats s) e t hd2 he
    clear hd hd2 hm hs
    rcases he2 with rfl | rfl
    · go_enter Try.func6, Try.ntmps6
      go_wp2_with fail
      refine (HDC.out ⟨#[]⟩ rfl _).mono ?_
      rintro e w1 ⟨rfl, hb1⟩
      go_wp2_with fail
      refine (awake_true _).mono ?_
      rintro e w2 ⟨rfl, hb2⟩
      go_wp2_with fail
      go_ret
      exact ⟨rfl, bel2 hb1 hb2⟩
    · go_enter Try.func6, Try.ntmps6
      go_wp2_with fail
      refine (HDC.out ⟨#[]⟩ rfl _).mono ?_
      rintro e w1 ⟨rfl, hb1⟩
      go_wp2_with fail
      refine (awake_true _).mono ?_
      rintro e w2 ⟨rfl, hb2⟩
      go_wp2_with fail
      go_ret
      exact ⟨rfl, bel2 hb1 hb2⟩

theorem nats_append (a b : ByteArray) : nats (a ++ b) = nats a ++ nats b := by
  simp only [nats, ByteArray.data_append, Array.toList_append, List.map_append]
theorem nats_inj {a b : ByteArray} (h : nats a = nats b) : a = b := by rw [← strN_nats a, h, strN_nats]
theorem nats_extract (c : ByteArray) (k : Nat) : nats (c.extract 0 k) = (nats c).take k := by
  simp only [nats, ByteArray.data_extract, Array.toList_extract, List.extract_eq_take_drop, List.drop_zero, Nat.sub_zero, List.map_take]
theorem size_append' (a b : ByteArray) : (a ++ b).size = a.size + b.size := by rw [← nats_length, nats_append, List.length_append, nats_length, nats_length]

set_option maxRecDepth 100000 in
set_option maxHeartbeats 2000000 in
theorem huffJoins_true (w : World) (a : ByteArray) (ha : a.size ≤ 1048576) (b : ByteArray) (hb : b.size ≤ 1048576) :
    Calls Try.prog 7 #[.string a, .string b] w fun e w' => e = .returned (.bool true) ∧ Below w.heap.size w w' := by
  have hsz := size_append' a b
  have hadd := fun w => run_string_add_sum (P := Try.prog) w a b (by omega)
  obtain ⟨hj1, hj2⟩ := Hf.enc_joins (nats a) (nats b)
  have hh := Hf.enc_head (nats a) (nats b)
  have hmono : (Hf.enc (nats a)).length ≤ (Hf.enc (nats a ++ nats b)).length := by
    rw [Hf.enc_length, Hf.enc_length, Hf.encBits_append, List.length_append]
    omega
  rw [← nats_append] at hj1 hj2 hh hmono
  rw [← encS_size, ← encS_size, ← encS_size] at hj1 hj2
  rw [← encS_size, ← encS_size] at hmono
  rw [← nats_encS, ← nats_encS, nats_length, ← nats_extract, ← nats_extract] at hh
  have hh := nats_inj hh
  have hla := encS_le a
  have hlb := encS_le b
  have hea := encode_as a _ rfl (by omega)
  have heb := encode_as b _ rfl (by omega)
  have hed := encode_as (a ++ b) _ rfl (by omega)
  have HEA := Lib.hid hea
  have HEB := Lib.hid heb
  have HED := Lib.hid hed
  clear hea heb hed
  generalize encS a = ca at hj1 hj2 hh hmono hla HEA
  generalize encS b = cb at hj1 hj2 hlb HEB
  generalize encS (a ++ b) = cd at hj1 hj2 hh hmono HED
  generalize hza : ca.size = za at hj1 hj2 hh hmono hla
  generalize hzb : cb.size = zb at hj1 hj2 hlb
  generalize hzd : cd.size = zd at hj1 hj2 hmono
  have h1 : IntKind.i64.wrap ((zd : Int) - (za : Int)) = (zd : Int) - (za : Int) := IntWalk.i64_in _ (by omega)
  have h2 : IntKind.i64.wrap ((zd : Int) - (za : Int) - (zb : Int)) = (zd : Int) - (za : Int) - (zb : Int) := IntWalk.i64_in _ (by omega)
  generalize hN : (zd : Int) - (za : Int) - (zb : Int) = N at h2
  have hN1 : ¬ (0 : Int) < N := by omega
  have hN2 : ¬ N < -1 := by omega
  have h3 : IntKind.i64.wrap ((za : Int) - 1) = (za : Int) - 1 := IntWalk.i64_in _ (by omega)
  have hmax := max_as ((za : Int) - 1) (za - 1) (by omega)
  have hlt : ¬ (zd : Int) < (za : Int) := by omega
  have hk1 : ((za - 1 : Nat) : Int) ≤ (za : Int) := by omega
  have hk2 : ((za - 1 : Nat) : Int) ≤ (zd : Int) := by omega
  generalize za - 1 = k at hh hmax hk1 hk2
  have hcut1 := fun w => run_slice_string_h (P := Try.prog) w 9 ca Try.underlying9 .i64 (k : Int) (by omega) (by omega)
  have hcut2 := fun w => run_slice_string_h (P := Try.prog) w 9 cd Try.underlying9 .i64 (k : Int) (by omega) (by omega)
  rw [Int.toNat_natCast] at hcut1 hcut2
  rw [hh] at hcut2
  have hk0 : (0 : Int) ≤ (k : Int) := by omega
  clear hj1 hj2 hmono hla hlb ha hb hh
  go_enter Try.func7, Try.ntmps7
  go_wp2_with fail
  refine (HEA.out _).mono ?_
  rintro e w1 ⟨rfl, hb1⟩
  go_wp2_with fail
  refine (HED.out _).mono ?_
  rintro e w2 ⟨rfl, hb2⟩
  go_wp2_with fail
  refine (HEB.out _).mono ?_
  rintro e w3 ⟨rfl, hb3⟩
  go_wp2_with fail
  go_region_held3 (fun _ => True) (first | exact True.intro) (first | (go_at_call 10; refine (awake_true _).mono ?_; rintro e w4 ⟨rfl, hb4⟩; have hB4 : Below w.heap.size w w4 := (bel2 (bel2 hb1 hb2) hb3).trans ((below_undrew hb4).mono (bel2 (bel2 hb1 hb2) hb3).size)))
  go_wp2
  go_ret
  exact ⟨rfl, hB4⟩
end Go.Proofs.Ytjgjeokfebpaaaa
