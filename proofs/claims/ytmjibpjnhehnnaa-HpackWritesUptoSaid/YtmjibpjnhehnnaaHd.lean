/- huff.Decode, walked: what it answers is what the plain reading answers. -/
import Derived.Test.YtmjibpjnhehnnaaHm
import Derived.Test.YtmjibpjnhehnnaaSt
import Derived.Laws.BitsAllLaws
namespace Go.Proofs.Ytmjibpjnhehnnaa
open Go.RowKit
attribute [local go_sem ↓] Go.wp_at_zero Go.wp_at_succ

theorem dec_step_none (m nn vv bt : Nat) (out : List Nat) (h : Hf.cnt (nn + 1) ≤ 2 * vv + bt - Hf.fst (nn + 1)) : Hf.dec m [bt] out nn vv = .inl (out, nn + 1, 2 * vv + bt) := by
  have hn : Hf.sym (nn + 1) (2 * vv + bt) = none := by
    unfold Hf.sym
    split
    · exact List.getElem?_eq_none h
    · rfl
  simp only [Hf.dec, hn]
theorem sym_at (n v : Nat) (h : Hf.fst n ≤ v) (hk : v - Hf.fst n < (Hf.hav n).length) : Hf.sym n v = some ((Hf.hav n).getD (v - Hf.fst n) 0) := by
  unfold Hf.sym
  rw [if_pos h, List.getD_eq_getElem?_getD, List.getElem?_eq_getElem hk]
  rfl
theorem dec_step_some (m nn vv bt x : Nat) (out : List Nat) (h : Hf.sym (nn + 1) (2 * vv + bt) = some x) : Hf.dec m [bt] out nn vv = if x = 256 then .inr 31 else if m ≤ out.length then .inr 3 else .inl (out ++ [x], 0, 0) := by
  simp only [Hf.dec, h]
theorem dec_stop (m j e : Nat) (bs : List Nat) (h : Hf.dec m (bs.take j) [] 0 0 = .inr e) : Hf.dec m bs [] 0 0 = .inr e := by
  have := Hf.dec_append m (bs.take j) (bs.drop j) [] 0 0
  rw [List.take_append_drop, h] at this
  exact this
theorem max_as (most : Int) (m : Nat) (hm : (max most 0).toNat = m) (ts : Array TypeId) (t : TypeId) (w : World) : (Builtin.max_ ts t #[.int .i64 most, .int .i64 0]).run Try.prog w = .ok (.int .i64 (m : Int)) w := by
  subst hm
  simp [Builtin.max_, Builtin.max2]
  split <;> omega
theorem strN_snoc_byte {out : List Nat} (h : Hf.Byte out) {x : Nat} (hx : x < 256) : Hf.Byte (out ++ [x]) := by
  intro y hy
  rcases List.mem_append.1 hy with hy | hy
  · exact h y hy
  · simp at hy; omega

set_option maxRecDepth 100000 in
set_option maxHeartbeats 4000000 in
theorem decode_any (s : ByteArray) (most : Int) (w : World) (hs : s.size ≤ 17592186044416) :
    Calls Try.prog 84 #[.string s, .int .i64 most] w fun e w' => e = .returned (.tuple #[.string (strN (Hf.decode (nats s) (max most 0).toNat).1), .int .i64 ((Hf.decode (nats s) (max most 0).toNat).2 : Nat)]) ∧ Below w.heap.size w w' := by
  go_enter Try.func84, Try.ntmps84
  go_wp2_with fail
  refine (made_any _).mono ?_
  rintro e w1 ⟨b, rfl, hbw, hB1, hv, hT⟩
  have hm8 : IntKind.i64.wrap (8 * (s.size : Int)) = 8 * (s.size : Int) := IntWalk.i64_in _ (by omega)
  go_wp2
  have hlb := bits_at (nats s)
  rw [nats_length] at hlb
  have HLB := Lib.hid hlb
  clear hlb
  generalize hmm : (max most 0).toNat = m
  have HM := Lib.hid hmm
  clear hmm
  go_loopw [7, 8, 9, 17] (fun o v n i wr => ∃ (k nn vv : Nat) (out : List Nat), k ≤ 8 * s.size ∧ i = .int .i64 (k : Int) ∧ v = .int .u32 (vv : Int) ∧ n = .int .i64 (nn : Int) ∧ wr.ownsRow w1.heap.size 5 1 o out.length (u8s out) ∧ Hf.dec m ((Hf.bits (nats s)).take k) [] 0 0 = .inl (out, nn, vv) ∧ Hf.Inv nn vv ∧ Hf.Byte out ∧ out.length ≤ k ∧ Below w1.heap.size w1 wr) (fun _ _ _ i _ => 8 * s.size - (intOf i).toNat)
  case atStart => exact ⟨0, 0, 0, [], by omega, rfl, rfl, rfl, World.ownsRow_nil _ _ _ _, rfl, Hf.Inv.zero, (fun x hx => by cases hx), Nat.le_refl _, Below.refl _ _⟩
  case round =>
    obtain ⟨k, nn, vv, out, hk, rfl, rfl, rfl, hown, hdec, hinv, hbyte, hol, hBr⟩ := hrel
    have hTr := hT.below hBr
    obtain ⟨A, c, rfl⟩ := own_slice hown
    by_cases hlt : k < 8 * s.size
    · have hix := run_index_nat Try.prog 9 Try.underlying9 s (k / 8) (by omega)
      have hbit := HLB.out k hlt
      have h7 : ((nats s).getD (k / 8) 0) < 256 := by
        rw [List.getD_eq_getElem?_getD, List.getElem?_eq_getElem (by rw [nats_length]; omega)]
        exact nats_byte s _ (List.getElem_mem _)
      generalize hby : (nats s).getD (k / 8) 0 = by1 at hix hbit h7
      have hh := hinv.short
      have hv0 := hinv.hi
      have hvv : (vv : Int) < 1073741824 := by
        have : 2 ^ nn ≤ 2 ^ 30 := Nat.pow_le_pow_right (by omega) (by omega)
        omega
      have hkq : IntKind.i64.wrap ((k : Int) / 8) = ((k / 8 : Nat) : Int) := IntWalk.i64_in _ (by omega)
      have hkr : (k : Int).tmod 8 = ((k % 8 : Nat) : Int) := by rw [Int.tmod_eq_emod_of_nonneg (by omega)]; rfl
      have hd7 : ((7 - k % 8 : Nat) : Int) ≤ 7 := by omega
      have hr7 : IntKind.i64.wrap (7 - ((k % 8 : Nat) : Int)) = ((7 - k % 8 : Nat) : Int) := by
        rw [IntWalk.i64_in _ (by omega)]; omega
      have hbt : by1 / 2 ^ (7 - k % 8) % 2 < 2 := Nat.mod_lt _ (by omega)
      have hsh : bits .and .u8 ((by1 : Int) / 2 ^ (7 - k % 8)) 1 = ((by1 / 2 ^ (7 - k % 8) % 2 : Nat) : Int) := by
        have h1 : (by1 : Int) / 2 ^ (7 - k % 8) = ((by1 / 2 ^ (7 - k % 8) : Nat) : Int) := by simp
        have h2 : by1 / 2 ^ (7 - k % 8) ≤ by1 := Nat.div_le_self _ _
        rw [h1]
        refine (u8_and_nat (by1 / 2 ^ (7 - k % 8)) 1 (by omega) (by omega)).trans ?_
        rw [Nat.and_one_is_mod]
      generalize k / 8 = q at hkq hix
      generalize k % 8 = r at hkr hr7 hbit hd7 hsh hbt
      generalize 7 - r = d at hr7 hbit hd7 hsh hbt
      generalize by1 / 2 ^ d % 2 = bt at hbit hsh hbt
      have hor : bits .or .u32 ((vv : Int) * 2) (bt : Int) = ((2 * vv + bt : Nat) : Int) := by
        have h1 : (vv : Int) * 2 = ((2 * vv : Nat) : Int) := by omega
        rw [h1]
        refine (u32_or_nat (2 * vv) bt (by omega) (by omega)).trans ?_
        have := Nat.two_pow_add_eq_or_of_lt (i := 1) (b := bt) (by omega) vv
        rw [Nat.pow_one] at this
        rw [this]
      have hw32 : IntKind.u32.wrap (bt : Int) = (bt : Int) := IntWalk.u32_in _ (by omega)
      have hdst : Hf.dec m ((Hf.bits (nats s)).take (k + 1)) [] 0 0 = Hf.dec m [bt] out nn vv := by
        rw [List.take_add_one, hbit, Hf.dec_append, hdec]; rfl
      have hk1 : IntKind.i64.wrap ((k : Int) + 1) = ((k + 1 : Nat) : Int) := IntWalk.i64_in _ (by omega)
      have hdsum : (nn : Int) + 1 ≤ 30 := by omega
      have hwn : IntKind.i64.wrap ((nn : Int) + 1) = ((nn + 1 : Nat) : Int) := IntWalk.i64_in _ (by omega)
      have hfi : Hf.fst (nn + 1) ≤ 2 * vv + bt := hinv.first
      have hv1 : 2 * vv + bt < 2147483648 := by omega
      have hkI : (k : Int) < 8 * (s.size : Int) := by omega
      have hn1 : nn + 1 < 31 := by omega
      have HD := Lib.hid hdec
      have HI := Lib.hid hinv
      have HDS := Lib.hid hdst
      have HB := Lib.hid hbt
      have HS8 := Lib.hid hs
      clear hdec hinv hdst hbt hbit hs hm8 hv0 h7
      generalize hnv : 2 * vv + bt = v1 at hor hfi hv1
      have HNV := Lib.hid hnv
      clear hnv
      have hcf := hTr.cellFirst (nn + 1) hn1
      have hch := hTr.cellHaving (nn + 1) hn1
      have hoh := hTr.own (nn + 1) hn1
      have hcnt : Hf.cnt (nn + 1) = (Hf.hav (nn + 1)).length := rfl
      generalize hn2 : nn + 1 = n1 at hwn hfi hn1 hcf hch hoh hcnt
      have HN1 := Lib.hid hn2
      clear hn2
      have hn10 : (n1 : Int) < 31 := by omega
      have hn11 : (0 : Int) ≤ (n1 : Int) := by omega
      have hsub : IntKind.u32.wrap ((v1 : Int) - (Hf.fst n1 : Int)) = ((v1 - Hf.fst n1 : Nat) : Int) := by rw [IntWalk.u32_in _ (by omega)]; omega
      have hnl : ¬ (v1 : Int) < (Hf.fst n1 : Int) := by omega
      generalize hkk : v1 - Hf.fst n1 = kk at hsub
      have HKK := Lib.hid hkk
      have hkw : IntKind.i64.wrap (kk : Int) = (kk : Int) := IntWalk.i64_in _ (by omega)
      obtain ⟨A', c', hA'⟩ := own_slice hoh
      rw [hA'] at hch hoh
      clear hkk hA'
      have HCNT := Lib.hid hcnt
      have HFI := Lib.hid hfi
      clear hcnt hfi
      generalize hq : (Hf.hav n1).length = q1 at hch hoh
      have HQ := Lib.hid hq
      clear hq
      have HOL := Lib.hid hol
      have HBY := Lib.hid hbyte
      clear hol hbyte
      by_cases hsome : kk < q1
      · have hs4 := sym_at (nn + 1) (2 * vv + bt) (by rw [HN1.out, HNV.out]; exact HFI.out) (by rw [HN1.out, HNV.out, HKK.out, HQ.out]; exact hsome)
        rw [HN1.out, HNV.out, HKK.out] at hs4
        have hd4 := fun x (hx : (Hf.hav n1).getD kk 0 = x) => dec_step_some m nn vv bt x out (by rw [HN1.out, HNV.out, hs4, hx])
        have hlt4 : (Hf.hav n1).getD kk 0 < 257 := Hf.hav_lt n1 hn1 _ (by rw [List.getD_eq_getElem?_getD, List.getElem?_eq_getElem (by rw [HQ.out]; exact hsome)]; exact List.getElem_mem _)
        obtain ⟨p, u, rfl, hu, hcu⟩ := own_at hoh kk hsome
        rw [u16s_at _ _ (by rw [HQ.out]; exact hsome)] at hu
        injection hu with hu
        subst hu
        generalize hx : (Hf.hav n1).getD kk 0 = x at hd4 hlt4 hcu
        have hd5 := hd4 x rfl
        clear hd4 hs4 hx
        rw [← HDS.out] at hd5
        have hkI2 : (kk : Int) < (q1 : Int) := by omega
        have hkI3 : (0 : Int) ≤ (kk : Int) := by omega
        have hngt : ¬ ((q1 : Int) ≤ (kk : Int)) := by omega
        have hmax := max_as most m HM.out
        generalize hMI : (m : Int) = M at hmax
        have HMI := Lib.hid hMI
        clear hMI
        by_cases hx256 : x = 256
        · subst hx256
          have HD5 := Lib.hid (dec_stop _ _ _ _ (hd5.trans (if_pos rfl)))
          clear hd5 hTr hown hoh hT
          go_wp2
          go_ret2
          have hr : Hf.decode (nats s) m = ([], 31) := by unfold Hf.decode; rw [HD5.out]; rfl
          rw [HM.out, hr]
          exact ⟨rfl, hB1.trans (hBr.mono hB1.size)⟩
        · rw [if_neg hx256] at hd5
          have hwx : IntKind.u8.wrap (x : Int) = (x : Int) ∨ x = 256 := by
            by_cases e : x = 256
            · exact .inr e
            · exact .inl (IntWalk.u8_in _ (by omega))
          have hwx := hwx.resolve_right hx256
          have hxI : ((x : Int) == 256) = false := by rw [beq_eq_false_iff_ne]; omega
          generalize hXI : (x : Int) = X at hcu hwx hxI
          have HXI := Lib.hid hXI
          clear hXI
          have HX := Lib.hid hx256
          clear hx256
          by_cases hm3 : m ≤ out.length
          · have hmI : M ≤ (out.length : Int) := by have := HMI.out; omega
            have HD5 := Lib.hid (dec_stop _ _ _ _ (hd5.trans (if_pos hm3)))
            clear hd5 hTr hown hoh hT
            go_wp2
            go_ret2
            have hr : Hf.decode (nats s) m = ([], 3) := by unfold Hf.decode; rw [HD5.out]; rfl
            rw [HM.out, hr]
            exact ⟨rfl, hB1.trans (hBr.mono hB1.size)⟩
          · rw [if_neg hm3] at hd5
            have hmI : ¬ M ≤ (out.length : Int) := by have := HMI.out; omega
            have HD5 := Lib.hid hd5
            have HBY5 := Lib.hid (strN_snoc_byte HBY.out (x := x) (by have := HX.out; omega))
            clear hd5 hTr hoh
            go_wp2_with (at_builtin; go_must (refine wpList_push w1.heap.size (by rfl) _ _ 67 5 _ 1 (by rfl) Try.underlying67 info_u8 rfl (.slice A out.length c) out.length (u8s out) (.int .u8 X) (by rfl) (by rfl) rfl (by exact hown) hBr.size (by have := HOL.out; have := HS8.out; unfold maxLen; omega) (by have := HOL.out; have := HS8.out; omega) ?_; intro v5 w5 hown5 hg5 hat5))
            have hB5 : Below w1.heap.size w1 w5 := (hBr.alloc hBr.size _).grown hg5 (by have := hBr.size; simp; omega) (fun g hg => (hown.lt g hg).1)
            have hown6 : w5.ownsRow w1.heap.size 5 1 v5 (out ++ [x]).length (u8s (out ++ [x])) := by rw [u8s_append, List.length_append, show u8s [x] = [.int .u8 X] from by rw [← HXI.out]; rfl]; exact hown5
            clear hown5 hg5 hat5 hown hmax hix
            go_wp2
            go_roundw
            case measure => simp [intOf]; omega
            case rel => exact ⟨k + 1, 0, 0, out ++ [x], by omega, rfl, rfl, rfl, hown6, HD5.out, Hf.Inv.zero, HBY5.out, by have := HOL.out; rw [List.length_append]; simp; omega, hB5⟩
      · have hge : (q1 : Int) ≤ (kk : Int) := by omega
        have hd5 := dec_step_none m nn vv bt out (by rw [HN1.out, HNV.out, HKK.out, HCNT.out, HQ.out]; omega)
        have hi5 := HI.out.next HB.out (by
          unfold Hf.sym
          split
          · exact List.getElem?_eq_none (by rw [HN1.out, HNV.out, HKK.out, HQ.out]; omega)
          · rfl)
        rw [HN1.out, HNV.out] at hd5 hi5
        clear hTr hoh
        go_wp2
        go_roundw
        case measure => simp [intOf]; omega
        case rel => exact ⟨k + 1, n1, v1, out, by omega, rfl, rfl, rfl, hown, HDS.out.trans hd5, hi5, HBY.out, by have := HOL.out; omega, hBr⟩
    · obtain rfl : k = 8 * s.size := by omega
      rw [List.take_of_length_le (by rw [Hf.bits_length, nats_length]; exact Nat.le_refl _)] at hdec
      have hr : Hf.decode (nats s) m = if 7 < nn ∨ vv ≠ 2 ^ nn - 1 then ([], 30) else (out, 0) := by unfold Hf.decode; rw [hdec]; rfl
      have HR := Lib.hid hr
      have htext := run_text hown hbyte
      have hB9 : Below w.heap.size w wr := hB1.trans (hBr.mono hB1.size)
      have hvv : vv < 2 ^ nn := hinv.hi
      clear hr hdec hinv hbyte hol hTr hown hT
      by_cases h7 : 7 < nn
      · have h7I : (7 : Int) < (nn : Int) := by omega
        clear hvv
        go_wp2
        go_ret2
        rw [HM.out, HR.out, if_pos (.inl h7)]
        exact ⟨rfl, hB9⟩
      · have h7I : ¬ (7 : Int) < (nn : Int) := by omega
        have hpw : 2 ^ nn ≤ 2 ^ 7 := Nat.pow_le_pow_right (by omega) (by omega)
        have hp0 : 0 < 2 ^ nn := Nat.two_pow_pos nn
        by_cases h8 : vv = 2 ^ nn - 1
        · have hmod : ((2 : Int) ^ nn - 1) % 4294967296 = (vv : Int) := by
            have h1 : ((2 : Int) ^ nn) = ((2 ^ nn : Nat) : Int) := by simp
            rw [h1]
            omega
          have H8 := Lib.hid h8
          have HP := Lib.hid hpw
          have HV := Lib.hid hvv
          clear h8 hpw hvv hp0
          go_wp2
          go_ret2
          rw [HM.out, HR.out, if_neg (by intro h; rcases h with h | h; exact h7 h; exact h H8.out)]
          exact ⟨rfl, hB9⟩
        · have hmod : ((2 : Int) ^ nn - 1) % 4294967296 = ((2 ^ nn - 1 : Nat) : Int) := by
            have h1 : ((2 : Int) ^ nn) = ((2 ^ nn : Nat) : Int) := by simp
            rw [h1]
            omega
          have H8 := Lib.hid h8
          generalize 2 ^ nn - 1 = y at hmod h8
          have hne : ¬ (vv : Int) = (y : Int) := by omega
          clear h8 hpw hvv hp0
          go_wp2
          go_ret2
          rw [HM.out, HR.out, if_pos (.inr H8.out)]
          exact ⟨rfl, hB9⟩
end Go.Proofs.Ytmjibpjnhehnnaa
