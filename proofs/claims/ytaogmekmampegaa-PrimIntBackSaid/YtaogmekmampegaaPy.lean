/- The law PrimIntBack: a number that is written is read as the same, whatever stands behind; of fewer bytes there is none. -/
import Derived.Test.YtaogmekmampegaaPx
import Derived.Lib.SmallJoins
namespace Go.Proofs.Ytaogmekmampegaa
open Go.RowKit
attribute [local go_sem ↓] Go.wp_at_zero Go.wp_at_succ

theorem nats_append (a b : ByteArray) : nats (a ++ b) = nats a ++ nats b := by
  simp only [nats, ByteArray.data_append, Array.toList_append, List.map_append]
theorem nats_extract (c : ByteArray) (k : Nat) : nats (c.extract 0 k) = (nats c).take k := by
  simp only [nats, ByteArray.data_extract, Array.toList_extract, List.extract_eq_take_drop, List.drop_zero, Nat.sub_zero, List.map_take]
theorem size_append' (a b : ByteArray) : (a ++ b).size = a.size + b.size := by rw [← nats_length, nats_append, List.length_append, nats_length, nats_length]
theorem min_as (a b : Int) (c : Int) (h : min a b = c) (ts : Array TypeId) (t : TypeId) (w : World) : (Builtin.min_ ts t #[.int .i64 a, .int .i64 b]).run Try.prog w = .ok (.int .i64 c) w := by
  subst h
  simp [Builtin.min_, Builtin.min2]
  split <;> omega
theorem quiet_left {P : Program} {f : FuncId} {args : Array Value} {w : World} {n : Nat} {v : Value}
    (h : Calls P f args (w.drewN n) fun e w' => e = .returned v ∧ w.drewN n = w') : Calls P f args (w.drewN n) fun e w'' => e = .returned v ∧ ∃ m, w'' = w.drewN m :=
  h.mono fun _ _ ⟨he, hm⟩ => ⟨he, n, hm.symm⟩
theorem below_undrewN {B : Nat} {w W : World} {n : Nat} (h : Below B (w.drewN n) W) : Below B w W := ⟨h.os, h.tape, h.output, h.size, h.block⟩
theorem int_byte (h m n : Nat) (b : Nat) (hb : b ≤ 8) (hm : m = 2 ^ b) (hm2 : 2 ≤ m) (hh : h < 256) (hr : h % m = 0) : Hf.Byte (Pr.int h m n) := by
  have hlt2 : h + (m - 1) < 256 := by
    have : h / m * m + h % m = h := by rw [Nat.mul_comm]; exact Nat.div_add_mod h m
    have h3 : m ∣ 256 := by rw [hm]; exact Nat.pow_dvd_pow 2 hb
    obtain ⟨c, hc⟩ := h3
    have h4 : h / m < c := by
      rw [hc] at hh
      exact Nat.div_lt_of_lt_mul hh
    have h5 : (h / m + 1) * m ≤ c * m := Nat.mul_le_mul_right m h4
    rw [Nat.add_mul, Nat.one_mul, Nat.mul_comm c m, ← hc] at h5
    omega
  unfold Pr.int
  split
  · intro x hx; simp at hx; omega
  · intro x hx
    rcases List.mem_cons.1 hx with rfl | hx
    · exact hlt2
    · exact Pr.put_byte _ x hx

set_option maxRecDepth 100000 in
theorem primIntBack_bad (w : World) (h b n : Int) (s : ByteArray) (cut : Int)
    (H1 : Hid (∀ w, Calls Try.prog 10 #[.int .u8 h, .int .i64 b, .int .i64 n] w fun en w' => en = .returned (.tuple #[.string ⟨#[]⟩, .int .i64 1]) ∧ Below w.heap.size w w')) :
    Calls Try.prog 7 #[.agg #[.int .u8 h, .int .i64 b, .int .i64 n], .string s, .int .i64 cut] w fun e w' => e = .returned (.bool true) ∧ Below w.heap.size w w' := by
  have hB : Below w.heap.size w (w.alloc (.cells #[.int .u8 h, .int .i64 b, .int .i64 n] 35)) := (Below.refl _ _).alloc (Nat.le_refl _) _
  go_enter Try.func7, Try.ntmps7
  go_wp2_with fail
  refine (H1.out _).mono ?_
  rintro en w1 ⟨rfl, hb1⟩
  go_wp2_with fail
  refine (awake_true _).mono ?_
  rintro en w2 ⟨rfl, hb2⟩
  go_wp2_with fail
  go_ret
  exact ⟨rfl, bel2 (hB.trans (hb1.mono hB.size)) hb2⟩

set_option maxRecDepth 100000 in
set_option maxHeartbeats 2000000 in
theorem primIntBack_true (w : World) (h : Int) (wf0 : (Lit.int .u8 h).wf = true) (b n : Int) (s : ByteArray) (hs : s.size ≤ 140737488355328) (cut : Int) (_wc : (Lit.int .i64 cut).wf = true) :
    Calls Try.prog 7 #[.agg #[.int .u8 h, .int .i64 b, .int .i64 n], .string s, .int .i64 cut] w fun e w' => e = .returned (.bool true) ∧ Below w.heap.size w w' := by
  obtain ⟨x, rfl, hx⟩ := u8_nat wf0
  by_cases hb : b < 1 ∨ 8 < b ∨ n < 0 ∨ 2147483647 < n
  · exact primIntBack_bad w _ b n s cut (Lib.hid fun w => (int_bad x b n w hb).mono fun e w' h => ⟨h.1, by rw [h.2]; exact Below.refl _ _⟩)
  · obtain ⟨b, rfl⟩ : ∃ b' : Nat, b = (b' : Int) := ⟨b.toNat, by omega⟩
    obtain ⟨n, rfl⟩ : ∃ n' : Nat, n = (n' : Int) := ⟨n.toNat, by omega⟩
    obtain ⟨m, hm⟩ : ∃ m, m = 2 ^ b := ⟨_, rfl⟩
    have hm1 := pow_in b m (by omega) (by omega) hm
    have hint := int_good x b n m
    by_cases hr : x % m = 0
    · have hw : Pr.wInt x m n = (Pr.int x m n, 0) := if_pos hr
      rw [hw] at hint
      have hby := int_byte x m n b (by omega) hm hm1.1 hx hr
      have hil := Pr.int_len x m n (by omega)
      have hrd := Pr.read_int x m n (nats s) hm1.1 hr (by omega)
      have hcutd := fun c => Pr.read_cut x m n c hm1.1 hr (by omega)
      have hns := nats_strN _ hby
      obtain ⟨S, hS⟩ : ∃ S, strN (Pr.int x m n) = S := ⟨_, rfl⟩
      rw [hS] at hns
      have hSz : (Pr.int x m n).length = S.size := by rw [← hns, nats_length]
      rw [← hns, ← nats_append, nats_length] at hrd
      rw [← hns] at hcutd hil
      rw [nats_length] at hil
      have H1 := Lib.hid (fun w => hint w (by omega) (by omega) hx (by omega) hm)
      simp only [hS] at H1
      have H2 := Lib.hid (fun w => readInt_good (S ++ s) b m _ w (by omega) (by omega) hm hrd)
      obtain ⟨c, hc, hcl⟩ : ∃ c : Nat, min ((max cut 0).toNat : Int) ((S.size - 1 : Nat) : Int) = (c : Int) ∧ c < S.size := ⟨min (max cut 0).toNat (S.size - 1), by omega, by omega⟩
      have hmax := max_as cut (max cut 0).toNat rfl
      have hmin := min_as _ _ _ hc
      have hcd := hcutd c (by rw [nats_length]; exact hcl)
      rw [← nats_extract] at hcd
      have H3 := Lib.hid (fun w => readInt_good (S.extract 0 c) b m _ w (by omega) (by omega) hm hcd)
      have hcut := fun w => run_slice_string_h (P := Try.prog) w 9 S Try.underlying9 .i64 (c : Int) (by omega) (by omega)
      rw [Int.toNat_natCast] at hcut
      have hadd := fun w => run_string_add_sum (P := Try.prog) w S s (by omega)
      have hw1 : IntKind.i64.wrap ((S.size : Int) - 1) = ((S.size - 1 : Nat) : Int) := by rw [IntWalk.i64_in _ (by omega)]; omega
      have hS6 : ¬ (6 : Int) < (S.size : Int) := by omega
      have hS1 : ¬ (S.size : Int) < 1 := by omega
      clear hint hw hby hil hrd hcutd hns hS hSz hcd hc hcl hr hm hm1 hb hx wf0 hs
      generalize (max cut 0).toNat = M at hmax hmin
      generalize S.size - 1 = k at hmin hw1
      have hB : Below w.heap.size w (w.alloc (.cells #[.int .u8 (x : Int), .int .i64 (b : Int), .int .i64 (n : Int)] 35)) := (Below.refl _ _).alloc (Nat.le_refl _) _
      go_enter Try.func7, Try.ntmps7
      go_wp2_with fail
      refine (H1.out _).mono ?_
      rintro en w1 ⟨rfl, hb1⟩
      have hb1' := hb1
      have hc1 : w1.cell? ⟨w.heap.size, 1, none⟩ = some (.int .i64 (b : Int)) := by rw [hb1.cell (p := ⟨w.heap.size, 1, none⟩) (by simp)]; simp
      have hc2 : w1.cell? ⟨w.heap.size, 2, none⟩ = some (.int .i64 (n : Int)) := by rw [hb1.cell (p := ⟨w.heap.size, 2, none⟩) (by simp)]; simp
      go_wp2_with fail
      refine (H2.out _).mono ?_
      rintro en w2 ⟨rfl, rfl⟩
      go_wp2_with fail
      go_quiet ((go_at_call 13; exact quiet_left (H3.out _)))
      go_wp2_with fail
      refine (awake_true _).mono ?_
      rintro en w4 ⟨rfl, hb4⟩
      go_wp2_with fail
      go_ret
      exact ⟨rfl, bel2 (hB.trans (hb1'.mono hB.size)) (below_undrewN hb4)⟩
    · have hw : Pr.wInt x m n = ([], 1) := if_neg hr
      rw [hw] at hint
      exact primIntBack_bad w _ _ _ s cut (Lib.hid fun w => hint w (by omega) (by omega) hx (by omega) hm)

/-- A number's parts. -/
theorem open_number {H : Type} {enc : TypeId × Value → H} {W : World} {base b0 : Nat} {spare : Nat → Bool} {held : Bool} {r : Reach} {v : Value} {d : DataW H} {p : List MemPlace} (hv : Value.okWide Try.prog W r b0 35 v) (h : DataW.Trod enc Try.prog W base spare held 35 v d p) :
    ∃ x b n : Int, v = .agg #[.int .u8 x, .int .i64 b, .int .i64 n] ∧ (Lit.int .u8 x).wf = true := by
  obtain ⟨v0, v1, v2, y0, y1, y2, k, rfl, _, _, h0, h1, h2⟩ := Go.Joins.open_agg3 Try.underlying35 (by kernel_rfl) (by kernel_rfl) hv h
  obtain ⟨x, hx, _, wx⟩ := DataW.trod_int Try.underlying5 h0
  obtain ⟨b, hb, _, _⟩ := DataW.trod_int Try.underlying3 h1
  obtain ⟨n, hn, _, _⟩ := DataW.trod_int Try.underlying3 h2
  injection hx with hx _
  injection hb with hb _
  injection hn with hn _
  subst hx; subst hb; subst hn
  exact ⟨x, b, n, rfl, wx⟩
end Go.Proofs.Ytaogmekmampegaa
