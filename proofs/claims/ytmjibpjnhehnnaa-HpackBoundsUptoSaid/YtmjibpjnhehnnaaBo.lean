/- HpackBounds, walked: whatever blocks come, a decoder's table and lists are within their bounds. -/
import Derived.Test.YtmjibpjnhehnnaaKs
namespace Go.Proofs.Ytmjibpjnhehnnaa
open Go.RowKit
attribute [local go_sem ↓] Go.wp_at_zero Go.wp_at_succ

namespace Hk
theorem readN_bd {C lst lim k : Nat} {s : Rd} (h : Bd (C + 262144) s) (hl : lim ≤ 65536) : Bd (C + 262144) (readN lst lim k s).2 := by
  induction k generalizing s with
  | zero => exact h
  | succ k ih =>
    rw [readN]
    split
    · exact h
    · split
      · exact next_bd h hl
      · exact ih (next_bd h hl)
/-- What a decoder answers is within its bounds. -/
theorem dec_bounds (lst br m : Nat) (l : List Tk.Fd) (block : List Nat) (hs : Tk.sum l ≤ m) (hm : m ≤ 4096) (hb : Hf.Byte block) (hz : block.length ≤ 268435456) (hbr : br ≤ 60) (fs : List Tk.Fd) (er br' : Nat) (l' : List Tk.Fd) (m' : Nat) (hd : dec lst 4096 br m l block = (fs, er, br', l', m')) :
    Tk.sum l' ≤ m' ∧ m' ≤ 4096 ∧ Tk.sum fs ≤ lst ∧ Tk.sum fs ≤ 70368744177664 ∧ (er ≠ 0 → fs = []) ∧ br' ≤ 60 ∧ (br' ≠ 0 → er = br') ∧ (br ≠ 0 → br' = br) ∧ (br' = 0 → er = 0 ∨ er = 61) := by
  unfold dec at hd
  by_cases h0 : br = 0
  · subst h0
    rw [if_neg (by simp)] at hd
    have hin : (start l m block).In 4096 := ⟨hs, hm⟩
    have hbd := start_bd (C := 70368744177664) (m := m) (l := l) hs (by omega) hb (by omega)
    have h1 := readN_in (lst := lst) (lim := 4096) (k := block.length) hin (by omega)
    have h2 := readN_bd (C := 70368743915520) (lst := lst) (lim := 4096) (k := block.length) hbd (by omega)
    have h3 := readN_kept (lst := lst) (lim := 4096) (k := block.length) (start_kept lst l m block)
    have h4 := readN_err lst 4096 block.length (start l m block)
    have h5 := answer_weight h3
    have e : run lst 4096 l m block = readN lst 4096 block.length (start l m block) := rfl
    rw [← e] at h1 h2 h3 h4 h5
    generalize run lst 4096 l m block = r at *
    simp only [Prod.mk.injEq] at hd
    obtain ⟨rfl, rfl, rfl, rfl, rfl⟩ := hd
    refine ⟨h1.1, h1.2, h5, ?_, answer_none, h4, ?_, fun h => absurd rfl h, ?_⟩
    · have := h2.out
      have := h2.weight
      unfold answer
      split
      · exact Nat.zero_le _
      · split
        · exact Nat.zero_le _
        · simp only; omega
    · intro h
      unfold answer
      rw [if_pos h]
    · intro h
      unfold answer
      rw [if_neg (by simpa using h)]
      split
      · exact .inr rfl
      · exact .inl rfl
  · rw [if_pos h0] at hd
    simp only [Prod.mk.injEq] at hd
    obtain ⟨rfl, rfl, rfl, rfl, rfl⟩ := hd
    exact ⟨hs, hm, Nat.zero_le _, Nat.zero_le _, fun _ => rfl, hbr, fun _ => rfl, fun _ => rfl, fun h => absurd h h0⟩
end Hk
/-- A decoder with its table. -/
def DR (w0 : World) (bd d lst lim br md : Nat) (ld : List Tk.Fd) (w : World) : Prop :=
  ∃ g, Tab w bd g ld (Tk.sum ld) md ∧ w.heap[d]? = some (.cells (DB bd lst lim br) 55 (0, 0)) ∧ w0.heap.size ≤ bd ∧ w0.heap.size ≤ d ∧ (∀ k, g = some k → w0.heap.size ≤ k) ∧ Below w0.heap.size w0 w
section
variable {w0 w w' : World} {bd d lst lim br md : Nat} {ld : List Tk.Fd}
theorem DR.below (h : DR w0 bd d lst lim br md ld w) (hb : Below w.heap.size w w') : DR w0 bd d lst lim br md ld w' := by
  obtain ⟨g, hT, hd, h1, h2, h3, hB⟩ := h
  exact ⟨g, hT.below hb, (hb.block d (heap_lt hd)).trans hd, h1, h2, h3, hB.trans (hb.mono hB.size)⟩
theorem DR.old (h : DR w0 bd d lst lim br md ld w) : Below w0.heap.size w0 w := by
  obtain ⟨g, hT, hd, h1, h2, h3, hB⟩ := h
  exact hB
/-- What reading leaves. -/
def DRRead (w0 w : World) (bd d lst lim br' md' : Nat) (ld' : List Tk.Fd) (fs : List Tk.Fd) (er : Nat) (en : Ending) (w' : World) : Prop :=
  ∃ A c, en = .returned (.tuple #[.slice A fs.length c, .int .i64 (er : Int)]) ∧ w'.ownsRow (w.heap.size + 1) 57 2 (.slice A fs.length c) fs.length (fcells fs) ∧ DR w0 bd d lst lim br' md' ld' w'
theorem dr_read (h : DR w0 bd d lst lim br md ld w) (block : ByteArray) (hs : Tk.sum ld ≤ md) (hm : md ≤ 65536) (hlim : lim ≤ 65536) (hz0 : block.size ≤ 268435456) (fs : List Tk.Fd) (er br' : Nat) (l' : List Tk.Fd) (m' : Nat) (hdec : Hk.dec lst lim br md ld (nats block) = (fs, er, br', l', m')) :
    Calls Try.prog 10 #[.pointer (some ⟨d, 0, none⟩), .string block] w (DRRead w0 w bd d lst lim br' m' l' fs er) := by
  obtain ⟨g, hT, hd, h1, h2, h3, hB⟩ := h
  refine (read_any w bd d g lst lim br md ld block hT hd hs hm hlim hz0 fs er br' l' m' hdec).mono ?_
  rintro en w' ⟨v, g', rfl, hU', hd', hr', hv', ho, hg'⟩
  obtain ⟨A, c, rfl⟩ := own_slice hr'
  refine ⟨A, c, rfl, hr', g', hU', hd', h1, h2, ?_, only_below hB ho ?_ hB.size⟩
  · intro k hk
    rcases hg' with e1 | ⟨k', e1, hle⟩
    · exact h3 k (e1 ▸ hk)
    · rw [hk] at e1; injection e1 with e1; have := hB.size; omega
  · rintro k (e | e | e)
    · omega
    · omega
    · exact h3 k e
theorem dr_size (h : DR w0 bd d lst lim br md ld w) : Calls Try.prog 11 #[.pointer (some ⟨d, 0, none⟩)] w fun en w' => en = .returned (.int .i64 (Tk.sum ld : Nat)) ∧ w = w' := by
  obtain ⟨g, hT, hd, _⟩ := h
  exact dsize_any w bd d lst lim br _ md g ld hT hd
end
theorem DR.new {w w2 : World} {d lst : Nat} (hU : Tab w2 (w.heap.size + 1) none [] 0 4096) (hd : w2.heap[d]? = some (.cells (DB (w.heap.size + 1) lst 4096 0) 55 (0, 0))) (hd1 : w.heap.size + 1 < d) (hb2 : Below w.heap.size w w2) : DR w (w.heap.size + 1) d lst 4096 0 4096 [] w2 :=
  ⟨none, hU, hd, by omega, by omega, (fun k h => by cases h), hb2⟩

set_option maxRecDepth 100000 in
set_option maxHeartbeats 8000000 in
theorem bounds_true (w : World) (n : Int) (a : Option Addr) (len cap : Nat) (zs : List ByteArray) (hrow : RowOf w a len Value.string zs) (hz : ∀ s ∈ zs, s.size ≤ 1048576) (hlen : len ≤ 1048576) :
    Calls Try.prog 3 #[.int .i64 n, .slice a len cap] w fun e w' => e = .returned (.bool true) ∧ Below w.heap.size w w' := by
  by_cases hn : n < 1
  · go_enter Try.func3, Try.ntmps3
    go_wp2_with fail
    refine (newDec_bad w n hn).mono ?_
    rintro e w2 ⟨rfl, rfl⟩
    go_wp2_with fail
    refine (awake_true w).mono ?_
    rintro e w2 ⟨rfl, hb⟩
    go_wp2
    go_ret
    exact ⟨rfl, hb⟩
  · obtain ⟨lst, rfl⟩ := Int.eq_ofNat_of_zero_le (show 0 ≤ n by omega)
    have hl1 : 1 ≤ lst := by omega
    have hrl := hrow.1
    clear hn
    go_enter Try.func3, Try.ntmps3
    go_wp2_with fail
    refine (newDec_good w lst hl1).mono ?_
    rintro e w2 ⟨d, rfl, hd1, hU, hD, hb2⟩
    have hDR := DR.new hU hD hd1 hb2
    clear hU hD hd1 hb2
    generalize w.heap.size + 1 = bd at *
    have HRL := Lib.hid hrl
    clear hrl
    go_wp2
    go_loopw [7, 8] (fun s7 i8 wr => ∃ (k br md : Nat) (ld : List Tk.Fd), k ≤ len ∧ i8 = .int .i64 (k : Int) ∧ s7 = .int .i64 (br : Int) ∧ br ≤ 60 ∧ Tk.sum ld ≤ md ∧ md ≤ 4096 ∧ DR w bd d lst 4096 br md ld wr) (fun _ i8 _ => len - (intOf i8).toNat)
    case atStart => exact ⟨0, 0, 4096, [], Nat.zero_le _, rfl, rfl, by omega, Nat.zero_le _, by omega, hDR⟩
    case round =>
      clear hDR
      obtain ⟨k, br, md, ld, hk, rfl, rfl, hbr, hs, hm, hDR⟩ := hrel
      by_cases hlt : k < len
      · obtain ⟨x0, rfl, hxb, hxc⟩ := hrow.2 k (by have := HRL.out; omega)
        have hxc' := (hDR.old.cell (p := x0.add k) (by rw [add_block]; exact hxb)).trans hxc
        have hzk := hz _ (List.getElem_mem (show k < zs.length by have := HRL.out; omega))
        generalize zs[k]'(by have := HRL.out; omega) = z at hxc' hzk hxc
        clear hxc hxb
        obtain ⟨fs, er, br', l', m', hdec⟩ : ∃ fs er br' l' m', Hk.dec lst 4096 br md ld (nats z) = (fs, er, br', l', m') := ⟨_, _, _, _, _, rfl⟩
        obtain ⟨hs', hm', hf1, hf2, hf3, hb', hb2, hb3, hb4⟩ := Hk.dec_bounds lst br md ld (nats z) hs hm (nats_byte z) (by rw [nats_length]; omega) hbr fs er br' l' m' hdec
        have HRD := Lib.hid (dr_read hDR z hs (by omega) (by omega) (by omega) fs er br' l' m' hdec)
        have hkI : (k : Int) < (len : Int) := by omega
        have hk0 : (0 : Int) ≤ (k : Int) := by omega
        clear hdec hDR
        go_wp2_with fail
        refine HRD.out.mono ?_
        rintro e w3 ⟨A, c, rfl, hr3, hDR3⟩
        clear HRD hxc'
        have HSZ := Lib.hid (dr_size hDR3)
        have HWT := Lib.hid (lweight_any w3 A fs.length c fs (FRow.own hr3) hf2)
        clear hr3
        have hI1 : ¬ (Tk.sum l' : Int) < 0 := by omega
        have hI2 : ¬ (4096 : Int) < (Tk.sum l' : Int) := by omega
        have hI3 : ¬ (lst : Int) < (Tk.sum fs : Int) := by omega
        have hsucc : IntKind.i64.wrap ((k : Int) + 1) = ((k + 1 : Nat) : Int) := by rw [IntWalk.i64_in _ (by omega)]; omega
        go_wp2_with fail
        refine HSZ.out.mono ?_
        rintro e wq ⟨rfl, rfl⟩
        go_wp2_with fail
        refine HSZ.out.mono ?_
        rintro e wq ⟨rfl, rfl⟩
        go_wp2_with fail
        refine HWT.out.mono ?_
        rintro e w4 ⟨rfl, hb4'⟩
        have hDR4 := hDR3.below hb4'
        clear hDR3 hb4' HSZ HWT
        by_cases he0 : er = 0
        · have hq : br' = 0 := by
            rcases Nat.eq_zero_or_pos br' with h | h
            · exact h
            · have := hb2 (by omega); omega
          have hq2 : br = 0 := by
            rcases Nat.eq_zero_or_pos br with h | h
            · exact h
            · have := hb3 (by omega); omega
          subst hq; subst hq2; subst he0
          clear hb2 hb3 hb4 hf3
          go_wp2
          go_roundw
          case rel => exact ⟨k + 1, 0, m', l', by omega, by go_num, rfl, by omega, hs', hm', hDR4⟩
          case measure => simp [intOf] <;> omega
        · have hfs := hf3 he0
          subst hfs
          by_cases h61 : er = 61
          · have hq : br' = 0 := by
              rcases Nat.eq_zero_or_pos br' with h | h
              · exact h
              · have := hb2 (by omega); omega
            have hq2 : br = 0 := by
              rcases Nat.eq_zero_or_pos br with h | h
              · exact h
              · have := hb3 (by omega); omega
            subst hq; subst hq2; subst h61
            clear hb2 hb3 hb4 hf3 he0
            go_wp2
            go_roundw
            case rel => exact ⟨k + 1, 0, m', l', by omega, by go_num, rfl, by omega, hs', hm', hDR4⟩
            case measure => simp [intOf] <;> omega
          · have hq : er = br' := by
              rcases Nat.eq_zero_or_pos br' with h | h
              · have := hb4 h; omega
              · exact hb2 (by omega)
            have he1 : ((er : Int) == 0) = false := by rw [beq_eq_false_iff_ne]; omega
            have he2 : ((er : Int) != 0) = true := by rw [bne_iff_ne]; omega
            have he3 : ((er : Int) == 61) = false := by rw [beq_eq_false_iff_ne]; omega
            have he4 : ((er : Int) != 61) = true := by rw [bne_iff_ne]; omega
            subst hq
            by_cases hb0 : br = 0
            · subst hb0
              clear hb2 hb3 hb4 hf3 he0 h61
              go_wp2
              go_roundw
              case rel => exact ⟨k + 1, er, m', l', by omega, by go_num, rfl, by omega, hs', hm', hDR4⟩
              case measure => simp [intOf] <;> omega
            · have hq := hb3 hb0
              subst hq
              clear hb2 hb3 hb4 hf3 he0 h61 hb0
              go_wp2
              go_roundw
              case rel => exact ⟨k + 1, er, m', l', by omega, by go_num, rfl, by omega, hs', hm', hDR4⟩
              case measure => simp [intOf] <;> omega
      · obtain rfl : k = len := by omega
        have hO := hDR.old
        go_wp2_with fail
        refine (awake_true wr).mono ?_
        rintro e w5 ⟨rfl, hb5⟩
        go_wp2
        go_ret
        exact ⟨rfl, hO.trans (hb5.mono hO.size)⟩
end Go.Proofs.Ytmjibpjnhehnnaa
