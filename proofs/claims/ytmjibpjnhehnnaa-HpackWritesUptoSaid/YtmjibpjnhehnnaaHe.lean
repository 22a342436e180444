/- huff.Encode, walked: the text that it answers is the plain coding. -/
import Derived.Test.YtmjibpjnhehnnaaHs
import Derived.Test.YtmjibpjnhehnnaaHp
import Derived.Laws.BitsAllLaws
namespace Go.Proofs.Ytmjibpjnhehnnaa
open Go.RowKit
attribute [local go_sem ↓] Go.wp_at_zero Go.wp_at_succ

theorem encBits_take (l : List Nat) (k : Nat) (h : k < l.length) : Hf.encBits (l.take (k + 1)) = Hf.encBits (l.take k) ++ Hf.codeBits (l.getD k 0) := by
  rw [List.take_add_one, List.getElem?_eq_getElem h, Hf.encBits_append, List.getD_eq_getElem?_getD, List.getElem?_eq_getElem h]
  congr 1
  show Hf.encBits [l[k]] = _
  rw [Hf.encBits_cons, Hf.encBits_nil, List.append_nil]
  rfl

set_option maxRecDepth 100000 in
set_option maxHeartbeats 4000000 in
theorem encode_any (s : ByteArray) (w : World) (hs : s.size ≤ 17592186044416) :
    Calls Try.prog 68 #[.string s] w fun e w' => e = .returned (.string (strN (Hf.enc (nats s)))) ∧ Below w.heap.size w w' := by
  go_enter Try.func68, Try.ntmps68
  go_wp2_with fail
  refine (made_any _).mono ?_
  rintro e w1 ⟨b, rfl, hbw, hB1, hv, hT⟩
  have HL := Lib.hid (nats_length s)
  have HBYTE := Lib.hid (nats_byte s)
  have HS := Lib.hid hs
  clear hs
  go_wp2
  go_loopw [4, 5, 6, 11] (fun o v n i wr => ∃ (k B : Nat) (Z out : List Nat), k ≤ s.size ∧ i = .int .i64 (k : Int) ∧ v = .int .u64 (B : Int) ∧ n = .int .i64 (Z.length : Int) ∧ wr.ownsRow w1.heap.size 5 1 o out.length (u8s out) ∧ Hf.pack (Hf.encBits ((nats s).take k)) = out ∧ Hf.left (Hf.encBits ((nats s).take k)) = Z ∧ B < 18446744073709551616 ∧ B % 2 ^ Z.length = Hf.val Z ∧ Below w1.heap.size w1 wr) (fun _ _ _ i _ => s.size - (intOf i).toNat)
  case atStart => exact ⟨0, 0, [], [], by omega, rfl, rfl, rfl, World.ownsRow_nil _ _ _ _, Hf.pack_short (by simp [Hf.encBits]), Hf.left_short (by simp [Hf.encBits]), by omega, rfl, Below.refl _ _⟩
  case round =>
    obtain ⟨k, B, Z, out, hk, rfl, rfl, rfl, hown, hpack, hleft, hB, hmod, hBr⟩ := hrel
    have hTr := hT.below hBr
    obtain ⟨A, c, rfl⟩ := own_slice hown
    by_cases hlt : k < s.size
    · have hix := run_index_nat Try.prog 9 Try.underlying9 s k hlt
      have h7 := getD_byte HBYTE.out k (by rw [HL.out]; exact hlt)
      have hst := encBits_take (nats s) k (by rw [HL.out]; exact hlt)
      generalize (nats s).getD k 0 = x at hix h7 hst
      have hbd := Hf.len_bd x (by omega)
      have hcl := hTr.cellLen x (by omega)
      have hcc := hTr.cellCode x (by omega)
      have hclt := Hf.code_lt x (by omega)
      have hcb := Hf.codeBits_length x
      have hx0 : (0 : Int) ≤ (x : Int) := by omega
      have hx1 : (x : Int) < 257 := by omega
      have hZ : Hf.Bits Z := by rw [← hleft]; exact Hf.left_bits (Hf.encBits_bits _)
      have hZ8 : Z.length < 8 := by rw [← hleft]; exact Hf.left_lt _
      obtain ⟨hp1, hp2⟩ := Hf.pack_step (Hf.encBits ((nats s).take k)) (Hf.codeBits x)
      rw [← hst, hpack, hleft] at hp1
      rw [← hst, hleft] at hp2
      have hE : (Hf.encBits ((nats s).take (k + 1))).length ≤ 30 * (k + 1) := take_bits_le (nats s) HBYTE.out (k + 1)
      have hcv : Hf.val (Hf.codeBits x) = Hf.code x := Hf.val_bitsN _ _ hclt
      have hcb2 := Hf.codeBits_bits x
      have hZZ : Hf.val (Z ++ Hf.codeBits x) = Hf.val Z * 2 ^ Hf.len x + Hf.code x := by rw [Hf.val_append, hcv, hcb]
      have hZl : (Z ++ Hf.codeBits x).length = Z.length + Hf.len x := by rw [List.length_append, hcb]
      have hZb : Hf.Bits (Z ++ Hf.codeBits x) := hZ.append hcb2
      have hmod1 := Hf.reg_mod B (Hf.len x) (Hf.code x) Z.length (Hf.val Z) (by omega) hclt hmod
      have hreg := Hf.reg_lt B (Hf.len x) (Hf.code x) (by omega) hclt
      have hor := Hf.shl_or B (Hf.len x) (Hf.code x) (by omega) hclt
      rw [← hZZ, ← hZl] at hmod1
      have hclt2 : Hf.code x < 4294967296 := by
        have : 2 ^ Hf.len x ≤ 2 ^ 30 := Nat.pow_le_pow_right (by omega) hbd.2
        omega
      clear hcv hcb hcb2 hZZ hclt hst hpack hleft hmod hZ
      have hn1 : ((Z ++ Hf.codeBits x).length : Int) = (Z.length : Int) + (Hf.len x : Int) := by omega
      generalize Z ++ Hf.codeBits x = Y0 at hZl hZb hmod1 hp1 hp2 hn1
      generalize hEq : Hf.encBits ((nats s).take (k + 1)) = E at hp1 hp2 hE
      have HEQ := Lib.hid hEq
      clear hEq
      generalize B % 2 ^ (64 - Hf.len x) * 2 ^ Hf.len x + Hf.code x = B1 at hmod1 hreg hor
      have hlt1 : B * 2 ^ Hf.len x % 18446744073709551616 < 18446744073709551616 := Nat.mod_lt _ (by omega)
      have hshl : IntKind.u64.wrap ((B : Int) * 2 ^ Hf.len x) = ((B * 2 ^ Hf.len x % 18446744073709551616 : Nat) : Int) := by
        rw [IntKind.wrap_u64]
        simp
      generalize B * 2 ^ Hf.len x % 18446744073709551616 = Y1 at hshl hor hlt1
      have hor2 : bits .or .u64 (Y1 : Int) (Hf.code x : Int) = (B1 : Int) := by
        rw [← hor]
        exact u64_or_nat _ _ (by omega) (by omega)
      have hw64 : IntKind.u64.wrap (Hf.code x : Int) = (Hf.code x : Int) := IntWalk.u64_in _ (by omega)
      have hwl : IntKind.i64.wrap (Hf.len x : Int) = (Hf.len x : Int) := IntWalk.i64_in _ (by omega)
      have hwn : IntKind.i64.wrap ((Z.length : Int) + (Hf.len x : Int)) = (Y0.length : Int) := by rw [← hn1]; exact IntWalk.i64_in _ (by omega)
      have hwk : IntKind.i64.wrap ((k : Int) + 1) = ((k + 1 : Nat) : Int) := IntWalk.i64_in _ (by have := HS.out; omega)
      have hkI : (k : Int) < (s.size : Int) := by omega
      have hY064 : Y0.length ≤ 64 := by omega
      have HY64 := Lib.hid hY064
      have HZB := Lib.hid hZb
      have HMOD := Lib.hid hmod1
      have HP1 := Lib.hid hp1
      have HP2 := Lib.hid hp2
      have HE := Lib.hid hE
      have HREG := Lib.hid hreg
      clear hor hlt1 hclt2 hB hY064 hmod1 hp1 hp2 hE hreg hZb hn1 hZ8
      generalize hLx : Hf.len x = L at hcl hbd hshl hwl hwn hZl
      generalize Hf.code x = C at hcc hor2 hw64
      have hL0 : (0 : Int) ≤ (L : Int) := by omega
      have hL1 : (L : Int) ≤ 64 := by omega
      clear hLx hbd hZl h7 hTr
      go_wp2
      go_quiet (fail)
      have hcl2 : (wr.drewN nq).cell? ⟨b, x, none⟩ = some (.int .u8 (L : Int)) := hcl
      go_wp2
      go_quiet (fail)
      go_wp2
      go_loopw [4, 6] (fun o n wr' => ∃ (Y o2 : List Nat), Y.length ≤ 64 ∧ n = .int .i64 (Y.length : Int) ∧ wr'.ownsRow w1.heap.size 5 1 o o2.length (u8s o2) ∧ Hf.pack E = o2 ++ Hf.pack Y ∧ Hf.left E = Hf.left Y ∧ Hf.Bits Y ∧ B1 % 2 ^ Y.length = Hf.val Y ∧ Below w1.heap.size w1 wr') (fun _ n _ => (intOf n).toNat)
      case atStart => exact ⟨Y0, out, HY64.out, rfl, hown, HP1.out, HP2.out, HZB.out, HMOD.out, hBr.os, hBr.tape, hBr.output, hBr.size, hBr.block⟩
      case round =>
        obtain ⟨Y, o2, hY64, rfl, hown3, hp3, hp4, hYb, hY, hB3⟩ := hrel
        obtain ⟨A3, c3, rfl⟩ := own_slice hown3
        have hlen : (Hf.pack E).length ≤ 4 * (k + 1) := by rw [Hf.pack_length]; have := HE.out; omega
        rw [hp3, List.length_append] at hlen
        by_cases h8 : 8 ≤ Y.length
        · obtain ⟨hr1, hr2⟩ := Hf.reg_read B1 Y hYb h8 hY
          have hpy := Hf.pack_long h8
          have hly := Hf.left_long h8
          have hdl : (Y.drop 8).length = Y.length - 8 := List.length_drop ..
          rw [← hdl] at hr1 hr2
          have hw8 : IntKind.i64.wrap ((Y.length : Int) - 8) = ((Y.drop 8).length : Int) := by rw [IntWalk.i64_in _ (by have := HE.out; have := HS.out; omega)]; omega
          have hb1 : Hf.val (Y.take 8) < 256 := by
            have := Hf.val_lt (hYb.take 8)
            rw [List.length_take, Nat.min_eq_left h8] at this
            exact this
          have hwb : IntKind.u8.wrap ((B1 : Int) / 2 ^ (Y.drop 8).length) = ((Hf.val (Y.take 8) : Nat) : Int) := by
            rw [IntKind.wrap_u8, ← hr1]
            simp
          rw [hpy] at hp3
          rw [hly] at hp4
          have hp5 : Hf.pack E = (o2 ++ [Hf.val (Y.take 8)]) ++ Hf.pack (Y.drop 8) := by rw [hp3]; simp
          have hy0 : (0 : Int) ≤ ((Y.drop 8).length : Int) := by omega
          have hy64 : ((Y.drop 8).length : Int) ≤ 64 := by omega
          have h8I : ¬ ((Y.length : Int) < 8) := by omega
          have hY2b := hYb.drop 8
          have hYY : (Y.drop 8).length < Y.length := by omega
          have hY264 : (Y.drop 8).length ≤ 64 := by omega
          generalize Hf.val (Y.take 8) = vb at hwb hp5 hb1
          generalize Y.drop 8 = Y2 at hwb hp5 hp4 hr2 hw8 hy0 hy64 hY2b hYY hY264
          have HP5 := Lib.hid hp5
          have HP4 := Lib.hid hp4
          have HR2 := Lib.hid hr2
          have HY2 := Lib.hid hY2b
          have HLEN := Lib.hid hlen
          have H264 := Lib.hid hY264
          clear hp3 hp4 hp5 hr1 hr2 hpy hly hdl hlen hYb hY hY2b h8 hb1 hY64 hY264
          go_wp2_with (at_builtin; go_must (refine wpList_push w1.heap.size (by rfl) _ _ 67 5 _ 1 (by rfl) Try.underlying67 info_u8 rfl (.slice A3 o2.length c3) o2.length (u8s o2) (.int .u8 (vb : Int)) (by rfl) (by rfl) rfl (by exact hown3) hB3.size (by have := HLEN.out; have := HS.out; unfold maxLen; omega) (by have := HLEN.out; have := HS.out; omega) ?_; intro v5 w5 hown5 hg5 hat5))
          have hB5 : Below w1.heap.size w1 w5 := (hB3.alloc hB3.size _).grown hg5 (by have := hB3.size; simp; omega) (fun g hg => (hown3.lt g hg).1)
          have hown6 : w5.ownsRow w1.heap.size 5 1 v5 (o2 ++ [vb]).length (u8s (o2 ++ [vb])) := by rw [u8s_append, List.length_append]; exact hown5
          clear hown5 hg5 hat5 hown3
          go_wp2
          go_roundw
          case measure => simp [intOf]; omega
          case rel => exact ⟨Y2, o2 ++ [vb], H264.out, rfl, hown6, HP5.out, HP4.out, HY2.out, HR2.out, hB5⟩
        · have h8I : (Y.length : Int) < 8 := by omega
          have hpy := Hf.pack_short (bs := Y) (by omega)
          have hly := Hf.left_short (bs := Y) (by omega)
          rw [hpy, List.append_nil] at hp3
          rw [hly] at hp4
          have HP3 := Lib.hid hp3
          have HP4 := Lib.hid hp4
          have HY := Lib.hid hY
          clear hp3 hp4 hpy hly hlen hYb hY h8
          go_wp2
          go_roundw
          case measure => simp [intOf]; omega
          case rel => exact ⟨k + 1, B1, Y, o2, by omega, rfl, rfl, rfl, hown3, HEQ.out ▸ HP3.out, HEQ.out ▸ HP4.out, HREG.out, HY.out, hB3⟩
    · obtain rfl : k = s.size := by omega
      rw [List.take_of_length_le (by rw [HL.out]; exact Nat.le_refl _)] at hpack hleft
      have hZ : Hf.Bits Z := by rw [← hleft]; exact Hf.left_bits (Hf.encBits_bits _)
      have hZ8 : Z.length < 8 := by rw [← hleft]; exact Hf.left_lt _
      have hB9 : Below w.heap.size w wr := hB1.trans (hBr.mono hB1.size)
      have hbyte := Hf.enc_byte (nats s)
      have hlen : out.length ≤ 4 * s.size := by
        rw [← hpack, Hf.pack_length]
        have := take_bits_le (nats s) HBYTE.out s.size
        rw [List.take_of_length_le (by rw [HL.out]; exact Nat.le_refl _)] at this
        omega
      by_cases h0 : Z.length = 0
      · have he : Hf.enc (nats s) = out := by
          unfold Hf.enc
          rw [Hf.enc_end _ (by rw [hleft]; exact h0), hpack]
        rw [he] at hbyte
        have htext := run_text hown hbyte
        have HE := Lib.hid he
        have h0I : (Z.length : Int) = 0 := by omega
        rw [h0I]
        clear he hpack hleft hZ hZ8 hB hmod hown hTr hT hBr hlen hbyte h0 h0I
        go_wp2
        go_ret
        rw [HE.out]
        exact ⟨rfl, hB9⟩
      · have he : Hf.enc (nats s) = out ++ [Hf.val (Z ++ List.replicate (8 - Z.length) 1)] := by
          unfold Hf.enc
          rw [Hf.enc_last _ (by rw [hleft]; omega), hpack, hleft]
        obtain ⟨hl1, hl2⟩ := Hf.last_byte Z hZ (by omega) hZ8 B hmod
        rw [he] at hbyte
        generalize Hf.val (Z ++ List.replicate (8 - Z.length) 1) = y at he hl1 hl2 hbyte
        have HE := Lib.hid he
        have HBS := Lib.hid hBr.size
        have hn0 : (0 : Int) < (Z.length : Int) := by omega
        have hw8 : IntKind.i64.wrap (8 - (Z.length : Int)) = ((8 - Z.length : Nat) : Int) := by rw [IntWalk.i64_in _ (by omega)]; omega
        generalize 8 - Z.length = d at hw8 hl1
        generalize hn : Z.length = n at hw8 hl1 hn0 hZ8 ⊢
        have hn1 : (n : Int) ≤ 8 := by omega
        have hs1 : IntKind.u64.wrap ((B : Int) * 2 ^ d) = ((B * 2 ^ d % 18446744073709551616 : Nat) : Int) := by
          rw [IntKind.wrap_u64]
          simp
        generalize B * 2 ^ d % 18446744073709551616 = S1 at hs1 hl1
        have hs2 : IntKind.u8.wrap (S1 : Int) = ((S1 % 256 : Nat) : Int) := by
          rw [IntKind.wrap_u8]
          simp
        have hS2 : S1 % 256 < 256 := Nat.mod_lt _ (by omega)
        generalize S1 % 256 = S2 at hs2 hl1 hS2
        have hs3 : bits .or .u8 (S2 : Int) (255 / 2 ^ n) = (y : Int) := by
          have h1 : (255 : Int) / 2 ^ n = ((255 / 2 ^ n : Nat) : Int) := by simp
          have h2 : 255 / 2 ^ n ≤ 255 := Nat.div_le_self _ _
          rw [h1, ← hl1]
          exact u8_or_nat _ _ hS2 (by omega)
        have hd0 : (0 : Int) ≤ (d : Int) := by omega
        have hd1 : (d : Int) ≤ 64 := by rw [← hw8, IntWalk.i64_in _ (by omega)]; omega
        have HLEN := Lib.hid hlen
        have HS2 := Lib.hid hbyte
        clear he hpack hleft hZ hZ8 hB hmod hTr hT hBr hlen h0 hn hl1 hl2 hS2 hbyte
        go_wp2
        go_region_held3 (fun _ => True) (first | exact True.intro) (first | (refine if_pos_wp (by rfl) ?_; go_must (refine wp_push_drew (W := wr) w1.heap.size _ _ 67 5 _ 1 (by rfl) Try.underlying67 info_u8 rfl (.slice A out.length c) out.length (u8s out) (.int .u8 (y : Int)) (by rfl) (by rfl) rfl (by exact hown) (by exact HBS.out) (by have := HLEN.out; have := HS.out; unfold maxLen; omega) (by have := HLEN.out; have := HS.out; omega) ?_); intro v5 w5 hown5 hg5 hat5))
        have hB5 : Below w.heap.size w w5 := (hB9.alloc hB9.size _).grown hg5 (by have := hB9.size; simp; omega) (fun g hg => by have := (hown.lt g hg).1; have := hB1.size; omega)
        obtain ⟨A5, c5, rfl⟩ := own_slice hown5
        have hown6 : w5.ownsRow w1.heap.size 5 1 (.slice A5 (out.length + 1) c5) (out.length + 1) (u8s (out ++ [y])) := by rw [u8s_append]; exact hown5
        have htext := run_text hown6 HS2.out
        clear hown hown5 hown6 hg5 hat5 hB9
        go_wp2
        go_ret
        rw [HE.out]
        exact ⟨rfl, hB5⟩
end Go.Proofs.Ytmjibpjnhehnnaa
