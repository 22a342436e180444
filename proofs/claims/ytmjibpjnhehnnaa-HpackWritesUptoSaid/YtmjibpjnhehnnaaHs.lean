/- huff.Size, walked. -/
import Derived.Test.YtmjibpjnhehnnaaHm
import Derived.Test.YtmjibpjnhehnnaaSt
namespace Go.Proofs.Ytmjibpjnhehnnaa
open Go.RowKit

theorem lens_step (l : List Nat) (k : Nat) (h : k < l.length) : (Hf.encBits (l.take (k + 1))).length = (Hf.encBits (l.take k)).length + Hf.len (l.getD k 0) := by
  rw [List.take_add_one, List.getElem?_eq_getElem h, Hf.encBits_append, List.length_append, List.getD_eq_getElem?_getD, List.getElem?_eq_getElem h]
  show _ + (Hf.encBits [l[k]]).length = _
  rw [Hf.encBits_cons, Hf.encBits_nil, List.append_nil, Hf.codeBits_length]
  rfl
theorem getD_byte {l : List Nat} (hl : Hf.Byte l) (k : Nat) (h : k < l.length) : l.getD k 0 < 256 := by
  rw [List.getD_eq_getElem?_getD, List.getElem?_eq_getElem h]
  exact hl _ (List.getElem_mem _)
theorem take_bits_le (l : List Nat) (hl : Hf.Byte l) (k : Nat) : (Hf.encBits (l.take k)).length ≤ 30 * k := by
  induction k with
  | zero => simp [Hf.encBits_nil]
  | succ k ih =>
    by_cases h : k < l.length
    · rw [lens_step l k h]
      have := (Hf.len_bd (l.getD k 0) (by have := getD_byte hl k h; omega)).2
      omega
    · rw [List.take_of_length_le (by omega)]
      rw [List.take_of_length_le (by omega)] at ih
      omega

set_option maxRecDepth 100000 in
set_option maxHeartbeats 2000000 in
theorem size_any (s : ByteArray) (w : World) (hs : s.size ≤ 140737488355328) :
    Calls Try.prog 67 #[.string s] w fun e w' => e = .returned (.int .i64 ((Hf.enc (nats s)).length : Nat)) ∧ Below w.heap.size w w' := by
  go_enter Try.func67, Try.ntmps67
  refine wp_seq_k fun K1 hK1 => ?_
  refine wp_region_lit ?_
  refine wpList_closed rfl (v := .int .i64 0) (w' := w) (by rfl) ?_
  refine wpList_nil ?_
  refine hK1 _ _ ?_
  clear hK1 K1
  refine wp_seq_k fun K1 hK1 => ?_
  refine wp_region_lit ?_
  refine wpList_calls rfl 79 #[] (by kernel_rfl) ?_
  refine (lengths_any _).mono ?_
  rintro e w1 ⟨rfl, hb1⟩
  refine ⟨_, rfl, ?_⟩
  refine wpList_closed rfl (v := .pointer (some ⟨w1.heap.size, 0, none⟩)) (w' := w1.alloc (.cells zeros8 121)) (by kernel_rfl) ?_
  refine wpList_closed_skip rfl (w' := w1.alloc (.cells lensA 121)) (lengths_store w1 rfl rfl rfl) ?_
  refine wpList_nil ?_
  refine hK1 _ _ ?_
  clear hK1 K1
  have hB : Below w.heap.size w (w1.alloc (.cells lensA 121)) := hb1.alloc hb1.size _
  have hcl : ∀ j, j < 257 → (w1.alloc (.cells lensA 121)).cell? ⟨w1.heap.size, j, none⟩ = some (.int .u8 (Hf.len j : Int)) := fun j hj => by
    rw [cell_of_row _ _ j _ _ _ (heap_alloc_new w1 _)]; exact lensA_at j hj
  generalize w1.alloc (.cells lensA 121) = w2 at hB hcl ⊢
  generalize w1.heap.size = b at hcl ⊢
  have HCL := Lib.hid hcl
  clear hcl hb1
  clear w1
  have hl := nats_length s
  have hbyte := nats_byte s
  have HL := Lib.hid hl
  have HBYTE := Lib.hid hbyte
  have HS := Lib.hid hs
  clear hl hbyte hs
  go_wp2
  go_loopw [4, 9] (fun n i wr => ∃ k : Nat, k ≤ s.size ∧ i = .int .i64 (k : Int) ∧ n = .int .i64 (((Hf.encBits ((nats s).take k)).length : Nat) : Int) ∧ wr = w2) (fun _ i _ => s.size - (intOf i).toNat)
  case atStart => exact ⟨0, by omega, rfl, rfl, rfl⟩
  case round =>
    obtain ⟨k, hk, rfl, rfl, rfl⟩ := hrel
    have hle := take_bits_le (nats s) HBYTE.out k
    by_cases hlt : k < s.size
    · have hix := run_index_nat Try.prog 9 Try.underlying9 s k hlt
      have h7 := getD_byte HBYTE.out k (by rw [HL.out]; exact hlt)
      have hst := lens_step (nats s) k (by rw [HL.out]; exact hlt)
      generalize (nats s).getD k 0 = x at hix h7 hst
      have hc := HCL.out x (by omega)
      have hbd := (Hf.len_bd x (by omega)).2
      have hx0 : (0 : Int) ≤ (x : Int) := by omega
      have hx1 : (x : Int) < 257 := by omega
      have hkI : (k : Int) < (s.size : Int) := by omega
      generalize Hf.len x = y at hc hbd hst
      generalize (Hf.encBits ((nats s).take k)).length = n at hst hle ⊢
      have hwy : IntKind.i64.wrap (y : Int) = (y : Int) := IntWalk.i64_in _ (by omega)
      have hwn : IntKind.i64.wrap ((n : Int) + (y : Int)) = ((n + y : Nat) : Int) := IntWalk.i64_in _ (by have := HS.out; omega)
      have hwk : IntKind.i64.wrap ((k : Int) + 1) = ((k + 1 : Nat) : Int) := IntWalk.i64_in _ (by have := HS.out; omega)
      have HST := Lib.hid hst
      clear hst hle
      go_wp2
      go_roundw
      case measure => simp [intOf]; omega
      case rel => exact ⟨k + 1, by omega, rfl, (by rw [HST.out]; exact congrArg (Value.int .i64) (by omega)), trivial⟩
    · obtain rfl : k = s.size := by omega
      have he := Hf.enc_length (nats s)
      rw [List.take_of_length_le (by rw [HL.out]; exact Nat.le_refl _)] at hle ⊢
      generalize (Hf.encBits (nats s)).length = n at hle he ⊢
      have hw7 : IntKind.i64.wrap ((n : Int) + 7) = ((n + 7 : Nat) : Int) := IntWalk.i64_in _ (by have := HS.out; omega)
      have hw8 : IntKind.i64.wrap (((n + 7 : Nat) : Int) / 8) = (((n + 7) / 8 : Nat) : Int) := IntWalk.i64_in _ (by have := HS.out; omega)
      clear hle
      generalize (n + 7) / 8 = m at hw8 he
      generalize n + 7 = n7 at hw7 hw8
      have HE := Lib.hid he
      clear he
      go_wp2
      go_ret
      rw [HE.out]
      exact ⟨rfl, hB⟩
end Go.Proofs.Ytmjibpjnhehnnaa
