/- The reference's Encode, walked: it codes as the plain law does. -/
import Derived.Test.YtaogmekmampegaaRd
import Derived.Laws.BitsAllLaws
namespace Go.Proofs.Ytaogmekmampegaa
open Go.RowKit
attribute [local go_sem ↓] Go.wp_at_zero Go.wp_at_succ

def slen : Value → Nat
  | .slice _ n _ => n
  | _ => 0
theorem pack_at (l : List Nat) (k : Nat) (h : 8 * k + 8 ≤ l.length) : (Hf.pack l)[k]? = some (Hf.val ((l.drop (8 * k)).take 8)) := by
  induction k generalizing l with
  | zero => rw [Hf.pack_long (by omega)]; rfl
  | succ k ih =>
    rw [Hf.pack_long (by omega), List.getElem?_cons_succ, ih (l.drop 8) (by rw [List.length_drop]; omega), List.drop_drop, show 8 + 8 * k = 8 * (k + 1) from by omega]
theorem pack_take (l : List Nat) (k : Nat) (h : 8 * k + 8 ≤ l.length) : (Hf.pack l).take (k + 1) = (Hf.pack l).take k ++ [Hf.val ((l.drop (8 * k)).take 8)] := by
  rw [List.take_add_one, pack_at l k h]; rfl
theorem val_take (l : List Nat) (i m : Nat) (h : i + m < l.length) : Hf.val ((l.drop i).take (m + 1)) = 2 * Hf.val ((l.drop i).take m) + l.getD (i + m) 0 := by
  have h2 : (l.drop i)[m]? = some (l.getD (i + m) 0) := by rw [List.getElem?_drop, List.getD_eq_getElem?_getD, List.getElem?_eq_getElem h]; rfl
  rw [List.take_add_one, h2]
  exact Hf.val_snoc _ _
theorem u8s_at (l : List Nat) (i : Nat) (h : i < l.length) : (u8s l)[i]? = some (.int .u8 (l.getD i 0 : Nat)) := by
  simp [u8s, h]
theorem getD_bit {l : List Nat} (hb : Hf.Bits l) (i : Nat) : l.getD i 0 < 2 := by
  rw [List.getD_eq_getElem?_getD]
  cases h : l[i]? with
  | none => simp
  | some x => exact hb x (List.mem_of_getElem? h)

set_option maxRecDepth 100000 in
set_option maxHeartbeats 2000000 in
theorem refEncode_any (s : ByteArray) (w : World) (hs : s.size ≤ 1099511627776) :
    Calls Try.prog 22 #[.string s] w fun e w' => e = .returned (.string (strN (Hf.enc (nats s)))) ∧ Below w.heap.size w w' := by
  have hle := Hf.encBits_le _ (nats_byte s)
  rw [nats_length] at hle
  have hbits := Hf.encBits_bits (nats s)
  have henc : Hf.enc (nats s) = Hf.pack (Hf.encBits (nats s) ++ List.replicate (Hf.pad (Hf.encBits (nats s)).length) 1) := rfl
  have HENC := Lib.hid henc
  have hrb := refBits_any s w hs
  generalize hE : Hf.encBits (nats s) = E at *
  have HEE := Lib.hid hE
  clear hE henc
  have HRB := Lib.hid hrb
  have HLE := Lib.hid hle
  have HBT := Lib.hid hbits
  have HHS := Lib.hid hs
  clear hrb hle hbits hs
  go_enter Try.func22, Try.ntmps22
  go_wp2_with fail
  refine HRB.out.mono ?_
  rintro e w1 ⟨A, c, rfl, hown, hb1⟩
  have hpl := Hf.pad_lt E.length
  have hpa := Hf.pad_all E.length
  generalize hp : Hf.pad E.length = p at *
  have HP := Lib.hid hp
  have HPA := Lib.hid hpa
  clear hp hpa
  go_wp2
  go_loopw [3] (fun o wr => ∃ d : Nat, d ≤ p ∧ wr.ownsRow w.heap.size 5 1 o (E ++ List.replicate d 1).length (u8s (E ++ List.replicate d 1)) ∧ Below w.heap.size w wr) (fun o _ => E.length + p - slen o)
  case atStart => exact ⟨0, Nat.zero_le _, (by rw [List.replicate_zero, List.append_nil]; exact hown), hb1⟩
  case round =>
    clear hown hb1
    obtain ⟨d, hd, hown, hB⟩ := hrel
    have hlen : (E ++ List.replicate d 1).length = E.length + d := by rw [List.length_append, List.length_replicate]
    rw [hlen] at hown
    obtain ⟨A, c, rfl⟩ := own_slice hown
    by_cases hlt : d < p
    · have hne : (((E.length + d : Nat) : Int) % 8 != 0) = true := by rw [bne_iff_ne]; have := HPA.out; omega
      have hne2 : ((((E.length + d : Nat) : Int)).tmod 8 != 0) = true := by rw [Int.tmod_eq_emod_of_nonneg (by omega)]; exact hne
      have hrep : E ++ List.replicate (d + 1) 1 = (E ++ List.replicate d 1) ++ [1] := by rw [List.replicate_succ', List.append_assoc]
      have HREP := Lib.hid hrep
      have HLEN := Lib.hid hlen
      have hbz := hB.size
      clear hrep hlen
      generalize E ++ List.replicate d 1 = o2 at *
      generalize hn : E.length + d = n at *
      have HN := Lib.hid hn
      clear hn
      go_wp2_with (at_builtin; go_must (refine wpList_push w.heap.size (by rfl) _ _ 39 5 _ 1 (by rfl) Try.underlying39 info_u8 rfl (.slice A n c) n (u8s o2) (.int .u8 1) (by rfl) (by rfl) rfl (by exact hown) (by exact hbz) (by have := HN.out; have := HLE.out; have := HHS.out; unfold maxLen; omega) (by have := HN.out; have := HLE.out; have := HHS.out; omega) ?_; intro v5 w5 hown5 hg5 hat5))
      obtain ⟨A5, c5, rfl⟩ := own_slice hown5
      have hB5 : Below w.heap.size w w5 := (hB.alloc hbz _).grown hg5 (by simp; omega) (fun g hg => (hown.lt g hg).1)
      have hown6 : w5.ownsRow w.heap.size 5 1 (.slice A5 (n + 1) c5) (o2 ++ [1]).length (u8s (o2 ++ [1])) := by
        rw [u8s_append, List.length_append, HLEN.out]; exact hown5
      go_roundw
      case measure => have := HN.out; simp [slen]; omega
      case rel => exact ⟨d + 1, by omega, (by rw [HREP.out]; exact hown6), hB5⟩
    · obtain rfl : d = p := by omega
      have heq : (((E.length + d : Nat) : Int) % 8 != 0) = false := by rw [bne_eq_false_iff_eq]; have := HPA.out; omega
      have heq2 : ((((E.length + d : Nat) : Int)).tmod 8 != 0) = false := by rw [Int.tmod_eq_emod_of_nonneg (by omega)]; exact heq
      have hbb : Hf.Bits (E ++ List.replicate d 1) := HBT.out.append (Hf.Bits.ones _)
      have henc := HENC.out
      have HENC2 := Lib.hid henc
      have hmod := HPA.out
      have hnle : E.length + d ≤ 30 * s.size + 8 := by have := HLE.out; omega
      clear henc HENC HRB
      generalize E ++ List.replicate d 1 = o2 at *
      generalize hn : E.length + d = n at *
      clear hn
      obtain ⟨q, hq⟩ : ∃ q, n = 8 * q := ⟨n / 8, by omega⟩
      have HQ := Lib.hid hq
      have HNLE := Lib.hid hnle
      have HLEN := Lib.hid hlen
      have HBB := Lib.hid hbb
      clear hq hnle hlen hmod hbb
      have hbz := hB.size
      have hcells := fun k hk => own_at hown k hk
      have HC := Lib.hid hcells
      clear hcells
      obtain ⟨wz, rfl⟩ : ∃ wz, wz = wr := ⟨wr, rfl⟩
      go_wp2
      go_loopw [4, 5] (fun o i wy => ∃ k : Nat, k ≤ q ∧ i = .int .i64 ((8 * k : Nat) : Int) ∧ wy.ownsRow wz.heap.size 5 1 o ((Hf.pack o2).take k).length (u8s ((Hf.pack o2).take k)) ∧ Below wz.heap.size wz wy) (fun _ i _ => 8 * q - (intOf i).toNat)
      case atStart => exact ⟨0, Nat.zero_le _, rfl, World.ownsRow_nil _ _ _ _, Below.refl _ _⟩
      case round =>
        obtain ⟨k, hk, rfl, hown2, hB2⟩ := hrel
        obtain ⟨A2, c2, rfl⟩ := own_slice hown2
        by_cases hlt2 : k < q
        · have hkn : 8 * k + 8 ≤ n := by have := HQ.out; omega
          have hpt := pack_take o2 k (by have := HLEN.out; omega)
          have hkI : ((8 * k : Nat) : Int) < (n : Int) := by omega
          have hpl2 : ((Hf.pack o2).take k).length ≤ k := List.length_take_le _ _
          have HPT := Lib.hid hpt
          have HPL := Lib.hid hpl2
          have HK := Lib.hid hlt2
          have HKN := Lib.hid hkn
          clear hpt hpl2 hlt2 hkn heq heq2 hk
          generalize (Hf.pack o2).take k = out at *
          generalize hi : 8 * k = i at *
          have HI := Lib.hid hi
          clear hi
          go_wp2
          go_loop [6, 7] (fun b m => ∃ j : Nat, j ≤ 8 ∧ m = .int .i64 (j : Int) ∧ b = .int .u8 (Hf.val ((o2.drop i).take j) : Nat)) (fun _ m => 8 - (intOf m).toNat)
          case atStart => exact ⟨0, by omega, rfl, rfl⟩
          case round =>
            obtain ⟨j, hj, rfl, rfl⟩ := hrel
            by_cases hj8 : j < 8
            · obtain ⟨x, u, rfl, hu, hc⟩ := HC.out (i + j) (by have := HKN.out; omega)
              rw [u8s_at _ _ (by have := HLEN.out; have := HKN.out; omega)] at hu
              injection hu with hu
              subst hu
              have hc2 := (hB2.cell (p := x.add (i + j)) (World.block_lt_of_cell? _ _ hc)).trans hc
              have hbit := getD_bit HBB.out (i + j)
              have hvt := val_take o2 i j (by have := HLEN.out; have := HKN.out; omega)
              have hvl := Hf.val_lt ((HBB.out.drop i).take j)
              have hvl2 : Hf.val ((o2.drop i).take j) < 128 := by
                have h1 : ((o2.drop i).take j).length ≤ 7 := by have := List.length_take_le j (o2.drop i); omega
                have h2 : 2 ^ ((o2.drop i).take j).length ≤ 2 ^ 7 := Nat.pow_le_pow_right (by omega) h1
                omega
              have HVT := Lib.hid hvt
              clear hvt hvl hc
              generalize o2.getD (i + j) 0 = bt at *
              generalize Hf.val ((o2.drop i).take j) = v at *
              have hij : IntKind.i64.wrap ((i : Int) + (j : Int)) = ((i + j : Nat) : Int) := by rw [IntWalk.i64_in _ (by have := HKN.out; have := HNLE.out; have := HHS.out; omega)]; omega
              have hiB : (i : Int) ≤ 35184372088832 := by have := HKN.out; have := HNLE.out; have := HHS.out; omega
              have hjI : (j : Int) < 8 := by omega
              have hm1 : (2 * (v : Int)) % 256 = ((2 * v : Nat) : Int) := by omega
              have hm2 : IntKind.u8.wrap (2 * (v : Int)) = ((2 * v : Nat) : Int) := by rw [IntWalk.u8_in _ (by omega)]; omega
              have hm3 : (((2 * v : Nat) : Int) + (bt : Int)) % 256 = ((2 * v + bt : Nat) : Int) := by omega
              have hm4 : IntKind.u8.wrap (((2 * v : Nat) : Int) + (bt : Int)) = ((2 * v + bt : Nat) : Int) := by rw [IntWalk.u8_in _ (by omega)]; omega
              have hnI : ((i + j : Nat) : Int) < (n : Int) := by have := HKN.out; omega
              go_wp2
              go_round
              case rel => exact ⟨j + 1, by omega, by go_num, by rw [HVT.out]; exact congrArg (Value.int .u8) (by omega)⟩
              case measure => simp [intOf] <;> omega
            · obtain rfl : j = 8 := by omega
              have HF := HPT.out
              rw [← HI.out] at HF
              rw [HI.out] at HF
              generalize hv : Hf.val ((o2.drop i).take 8) = v at *
              have hvb : v < 256 := by
                rw [← hv]
                have h1 : ((o2.drop i).take 8).length ≤ 8 := List.length_take_le _ _
                have h2 : 2 ^ ((o2.drop i).take 8).length ≤ 2 ^ 8 := Nat.pow_le_pow_right (by omega) h1
                have h3 := Hf.val_lt ((HBB.out.drop i).take 8)
                omega
              have HFF := Lib.hid HF
              clear HF hv
              have hbz2 := hB2.size
              have hiB : (i : Int) ≤ 35184372088832 := by have := HKN.out; have := HNLE.out; have := HHS.out; omega
              go_wp2_with (at_builtin; go_must (refine wpList_push wz.heap.size (by rfl) _ _ 39 5 _ 1 (by rfl) Try.underlying39 info_u8 rfl (.slice A2 out.length c2) out.length (u8s out) (.int .u8 (v : Int)) (by rfl) (by rfl) rfl (by exact hown2) (by exact hbz2) (by have := HPL.out; have := HKN.out; have := HNLE.out; have := HHS.out; have := HI.out; unfold maxLen; omega) (by have := HPL.out; have := HKN.out; have := HNLE.out; have := HHS.out; have := HI.out; omega) ?_; intro v5 w5 hown5 hg5 hat5))
              obtain ⟨A5, c5, rfl⟩ := own_slice hown5
              have hB5 : Below wz.heap.size wz w5 := (hB2.alloc hbz2 _).grown hg5 (by simp; omega) (fun g hg => (hown2.lt g hg).1)
              have hown6 : w5.ownsRow wz.heap.size 5 1 (.slice A5 (out.length + 1) c5) (out ++ [v]).length (u8s (out ++ [v])) := by
                rw [u8s_append, List.length_append]; exact hown5
              go_roundw
              case measure => have := HKN.out; have := HQ.out; have := HI.out; have := HK.out; simp [intOf] <;> omega
              case rel => exact ⟨k + 1, by have := HK.out; omega, (congrArg (Value.int .i64) (by have := HI.out; omega)), (by rw [HFF.out]; exact hown6), hB5⟩
        · obtain rfl : k = q := by omega
          have hkI : ¬ (((8 * k : Nat) : Int) < (n : Int)) := by have := HQ.out; omega
          have hall : (Hf.pack o2).take k = Hf.pack o2 := List.take_of_length_le (by rw [Hf.pack_length, HLEN.out, HQ.out]; omega)
          rw [hall, ← HENC2.out] at hown2
          rw [hall, ← HENC2.out]
          have htx := run_text hown2 (Hf.enc_byte _)
          have hBF : Below w.heap.size w wr := hB.trans (hB2.mono hbz)
          have HT := HENC2
          clear hall heq heq2 hlt2 hk hown2 hB2
          generalize hi : 8 * k = i at *
          clear hi
          go_wp2
          go_ret
          exact ⟨rfl, hBF⟩
end Go.Proofs.Ytaogmekmampegaa
