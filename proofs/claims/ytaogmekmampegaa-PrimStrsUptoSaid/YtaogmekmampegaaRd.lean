/- The reference's place and bits, walked. -/
import Derived.Test.YtaogmekmampegaaRc
import Derived.Test.YtaogmekmampegaaSt
import Derived.StillTailTactics
namespace Go.Proofs.Ytaogmekmampegaa
open Go.RowKit
attribute [local go_sem ↓] Go.wp_at_zero Go.wp_at_succ

theorem own_mono {w : World} {base base' n : Nat} {e : TypeId} {size : Nat} {v : Value} {xs : List Value} (h : w.ownsRow base e size v n xs) (hb : base' ≤ base) : w.ownsRow base' e size v n xs := by
  refine ⟨h.1, ?_⟩
  rcases h.2 with h2 | ⟨g, cap, cur, hv, hg, r⟩
  · exact .inl h2
  · exact .inr ⟨g, cap, cur, hv, Nat.le_trans hb hg, r⟩
theorem cds_below {w w' : World} {v0 v1 v2 : Value} (h : Cds w v0 v1 v2) (hb : Below w.heap.size w w') : Cds w' v0 v1 v2 :=
  cds_only h (Only.of_below (fun _ => False) hb) (fun _ _ _ _ _ h => h)
theorem idx_here (s i : Nat) (hi : i < 257) (h : Hf.ord.getD i 0 = s) : Hf.ord.idxOf s = i := by
  rw [← h]
  exact Hf.place_inj i hi

set_option maxRecDepth 100000 in
theorem place_any (w : World) (v0 v1 v2 : Value) (s : Nat) (hs : s < 257) (hc : Cds w v0 v1 v2) :
    Calls Try.prog 29 #[.agg #[v0, v1, v2], .int .i64 (s : Int)] w fun e w' => e = .returned (.int .i64 (Hf.ord.idxOf s : Nat)) ∧ Below w.heap.size w w' := by
  have hB : Below w.heap.size w (w.alloc (.cells #[v0, v1, v2] 59)) := (Below.refl _ _).alloc (Nat.le_refl _) _
  have hc := cds_below hc hB
  obtain ⟨x0, x1, x2, c0, c1, c2, rfl, rfl, rfl, hk⟩ := hc
  have HK := Lib.hid hk
  have HP := Lib.hid (Hf.place_at s hs)
  clear hk
  have hl := HP.out.1
  go_enter Try.func29, Try.ntmps29
  go_wp2
  go_loop [5] (fun i => ∃ k : Nat, k ≤ Hf.ord.idxOf s ∧ i = .int .i64 (k : Int)) (fun i => 257 - (intOf i).toNat)
  case atStart => exact ⟨0, Nat.zero_le _, rfl⟩
  case round =>
    obtain ⟨k, hk, rfl⟩ := hrel
    have hkI : (k : Int) < 257 := by omega
    have hcell := (HK.out k (by omega)).1
    by_cases he : Hf.ord.getD k 0 = s
    · have hi := idx_here s k (by omega) he
      rw [he] at hcell
      have HI := Lib.hid hi
      clear hi he hk hl
      go_wp2
      go_ret
      rw [HI.out]
      exact ⟨rfl, hB⟩
    · have hne : (((Hf.ord.getD k 0 : Nat) : Int) == (s : Int)) = false := by rw [beq_eq_false_iff_ne]; omega
      have hlt : k < Hf.ord.idxOf s := by
        rcases Nat.lt_or_ge k (Hf.ord.idxOf s) with h | h
        · exact h
        · exact absurd (by rw [show k = Hf.ord.idxOf s from by omega]; exact HP.out.2) he
      clear he hk
      generalize Hf.ord.getD k 0 = q at *
      go_wp2
      go_round
      case rel => exact ⟨k + 1, by omega, by go_num⟩
      case measure => simp [intOf]; omega

theorem bitsN_at (m v j : Nat) (h : j < m) : (Hf.bitsN m v)[j]? = some (v / 2 ^ (m - 1 - j) % 2) := by
  induction m generalizing j with
  | zero => omega
  | succ m ih =>
    rw [Hf.bitsN_cons]
    cases j with
    | zero => simp
    | succ j =>
      rw [List.getElem?_cons_succ, ih j (by omega), show m + 1 - 1 - (j + 1) = m - 1 - j from by omega]
theorem encBits_take (l : List Nat) (i : Nat) (h : i < l.length) : Hf.encBits (l.take (i + 1)) = Hf.encBits (l.take i) ++ Hf.codeBits (l.getD i 0) := by
  rw [List.take_succ_eq_append_getElem h, Hf.encBits_append, List.getD_eq_getElem?_getD, List.getElem?_eq_getElem h]
  simp [Hf.encBits]
theorem byte_take {l : List Nat} (h : Hf.Byte l) (i : Nat) : Hf.Byte (l.take i) := fun x hx => h x (List.mem_of_mem_take hx)

set_option maxRecDepth 100000 in
set_option maxHeartbeats 2000000 in
theorem refBits_any (s : ByteArray) (w : World) (hs : s.size ≤ 1099511627776) :
    Calls Try.prog 27 #[.string s] w fun e w' => ∃ A c, e = .returned (.slice A (Hf.encBits (nats s)).length c) ∧ w'.ownsRow w.heap.size 5 1 (.slice A (Hf.encBits (nats s)).length c) (Hf.encBits (nats s)).length (u8s (Hf.encBits (nats s))) ∧ Below w.heap.size w w' := by
  go_enter Try.func27, Try.ntmps27
  go_wp2_with fail
  refine (refCodes_any _).mono ?_
  rintro e w1 ⟨v0, v1, v2, rfl, hcd, hb1⟩
  have hcd0 := hcd
  obtain ⟨x0, x1, x2, c0, c1, c2, rfl, rfl, rfl, hk⟩ := hcd
  have hx2b : x2.block < w1.heap.size := by
    have := World.block_lt_of_cell? w1 _ (hk 0 (by omega)).2.2
    rwa [add_block] at this
  have hx1b : x1.block < w1.heap.size := by
    have := World.block_lt_of_cell? w1 _ (hk 0 (by omega)).2.1
    rwa [add_block] at this
  go_wp2
  have hB0 : Below w1.heap.size w1 (w1.alloc (.cells #[.slice (some x0) 257 c0, .slice (some x1) 257 c1, .slice (some x2) 257 c2] 59)) := (Below.refl _ _).alloc (Nat.le_refl _) _
  have hcd1 := cds_below hcd0 hB0
  have hbl0 := heap_alloc_new w1 (.cells #[.slice (some x0) 257 c0, .slice (some x1) 257 c1, .slice (some x2) 257 c2] 59)
  have hsz0 : (w1.alloc (.cells #[.slice (some x0) 257 c0, .slice (some x1) 257 c1, .slice (some x2) 257 c2] 59)).heap.size = w1.heap.size + 1 := by simp
  have HSZ := Lib.hid hsz0
  clear hk hcd0 hsz0
  generalize w1.alloc (.cells #[.slice (some x0) 257 c0, .slice (some x1) 257 c1, .slice (some x2) 257 c2] 59) = w2 at *
  have hbw : w.heap.size ≤ w1.heap.size := hb1.size
  have hB2 : Below w.heap.size w w2 := hb1.trans (hB0.mono hbw)
  generalize hb : w1.heap.size = b at *
  have HBL := Lib.hid hbl0
  clear hb hb1 hB0 hbl0
  go_loopw [4, 5] (fun o i wr => ∃ (k : Nat), k ≤ s.size ∧ i = .int .i64 (k : Int) ∧ wr.ownsRow (b + 1) 5 1 o (Hf.encBits ((nats s).take k)).length (u8s (Hf.encBits ((nats s).take k))) ∧ Below (b + 1) w2 wr) (fun _ i _ => s.size - (intOf i).toNat)
  case atStart => exact ⟨0, Nat.zero_le _, rfl, World.ownsRow_nil _ _ _ _, Below.refl _ _⟩
  case round =>
    obtain ⟨k, hk, rfl, hown, hB⟩ := hrel
    obtain ⟨A, c, rfl⟩ := own_slice hown
    by_cases hlt : k < s.size
    · have hix := run_index_nat Try.prog 9 Try.underlying9 s k hlt
      have hx0 : (nats s).getD k 0 < 256 := by
        rw [List.getD_eq_getElem?_getD, List.getElem?_eq_getElem (by rw [nats_length]; exact hlt)]
        exact nats_byte s _ (List.getElem_mem _)
      have htake := encBits_take (nats s) k (by rw [nats_length]; exact hlt)
      have hlen := Hf.encBits_le _ (byte_take (nats_byte s) k)
      have hlen2 : ((nats s).take k).length ≤ k := List.length_take_le _ _
      generalize (nats s).getD k 0 = x at *
      have HTK := Lib.hid htake
      clear htake
      generalize Hf.encBits ((nats s).take k) = out at *
      have hlen3 : out.length ≤ 30 * k := by omega
      clear hlen hlen2
      have hblk : wr.heap[b]? = _ := (hB.block b (by omega)).trans HBL.out
      have hq0 : wr.cell? ⟨b, 0, none⟩ = some (.slice (some x0) 257 c0) := by rw [cell_of_row wr b _ _ _ _ hblk]; rfl
      have hq1 : wr.cell? ⟨b, 1, none⟩ = some (.slice (some x1) 257 c1) := by rw [cell_of_row wr b _ _ _ _ hblk]; rfl
      have hq2 : wr.cell? ⟨b, 2, none⟩ = some (.slice (some x2) 257 c2) := by rw [cell_of_row wr b _ _ _ _ hblk]; rfl
      have hcdr : Cds wr (.slice (some x0) 257 c0) (.slice (some x1) 257 c1) (.slice (some x2) 257 c2) := cds_below hcd1 (hB.mono (by have := HSZ.out; omega))
      have hwx : IntKind.i64.wrap (x : Int) = (x : Int) := IntWalk.i64_in _ (by omega)
      have HBK := Lib.hid hblk
      have hbs : b < wr.heap.size := heap_lt hblk
      have hkI : (k : Int) < (s.size : Int) := by omega
      have hbz : b + 1 ≤ wr.heap.size := hbs
      clear hblk
      go_upto_region 7 with fail
      go_still_tail 5, (by kernel_rfl)
      have hBd : Below (b + 1) w2 wr.drew := hB.drew
      have hownd := hown.drew
      have hcdd : Cds wr.drew (.slice (some x0) 257 c0) (.slice (some x1) 257 c1) (.slice (some x2) 257 c2) := hcdr
      have HBKd : Hid (wr.drew.heap[b]? = some (.cells #[.slice (some x0) 257 c0, .slice (some x1) 257 c1, .slice (some x2) 257 c2] 59 (0, 0))) := HBK
      have hbzd : b + 1 ≤ wr.drew.heap.size := hbz
      change wpList _ _ _ _ _ wr.drew
      generalize wr.drew = wd at *
      clear hB hown hcdr HBK hbz hq0 hq1 hq2 hbs
      go_wp2_with fail
      refine (place_any _ _ _ _ x (by omega) hcdd).mono ?_
      rintro e w3 ⟨rfl, hb3⟩
      have hK := Hf.place_at x (by omega)
      have hlx := Hf.len_bd x (by omega)
      have hcx := Hf.code_bd x (by omega)
      have hB3 : Below (b + 1) w2 w3 := hBd.trans (hb3.mono hbzd)
      have hown3 : w3.ownsRow (b + 1) 5 1 (.slice A out.length c) out.length (u8s out) := hownd.kept ⟨hb3.os, hb3.tape, hb3.output, hb3.size, fun i hi _ => hb3.block i hi⟩ (row := none) (by
        cases h : (Value.slice A out.length c).ownBlock with
        | none => exact .inl rfl
        | some k => exact .inr (by simp))
      obtain ⟨y0, y1, y2, d0, d1, d2, e0, e1, e2, hk3⟩ := hcd1
      injection e0 with e0 e0' e0''
      injection e0 with e0
      injection e1 with e1 e1' e1''
      injection e1 with e1
      injection e2 with e2 e2' e2''
      injection e2 with e2
      subst e0; subst e1; subst e2
      obtain ⟨_, hk1, hk2⟩ := hk3 _ hK.1
      rw [hK.2] at hk1 hk2
      have hKI : ((Hf.ord.idxOf x : Nat) : Int) < 257 := by have := hK.1; omega
      have hcb : Hf.codeBits x = Hf.bitsN (Hf.len x) (Hf.code x) := rfl
      rw [hcb] at HTK
      clear e0' e0'' e1' e1'' e2' e2'' hK hk3 hB2 hcb hBd hownd hcdd HBKd hbzd hb3 hix
      generalize Hf.ord.idxOf x = K at *
      generalize Hf.len x = L at *
      generalize Hf.code x = cs at *
      have HK1 := Lib.hid hk1
      have HK2 := Lib.hid hk2
      have hq1 : w3.cell? ⟨b, 1, none⟩ = some (.slice (some x1) 257 c1) := by rw [cell_of_row w3 b _ _ _ _ ((hB3.block b (by omega)).trans HBL.out)]; rfl
      have hc1 := (hB3.cell (p := x1.add K) (by rw [add_block]; omega)).trans hk1
      have hLI1 : (5 : Int) ≤ (L : Int) := by omega
      have hLI2 : (L : Int) ≤ 30 := by omega
      have hw1 : IntKind.i64.wrap ((L : Int) - 1) = (L : Int) - 1 := IntWalk.i64_in _ (by omega)
      have HLX := Lib.hid hlx
      have HCX := Lib.hid hcx
      have HL3 := Lib.hid hlen3
      have HLT := Lib.hid hlt
      have HHS := Lib.hid hs
      clear hlx hcx hlen3 hlt hs hk1 hk2
      go_wp2
      clear hq1 hc1 hw1
      go_loopw [4, 7] (fun o n wr => ∃ (j : Nat), j ≤ L ∧ n = .int .i64 ((L : Int) - 1 - (j : Int)) ∧ wr.ownsRow (b + 1) 5 1 o (out ++ (Hf.bitsN L cs).take j).length (u8s (out ++ (Hf.bitsN L cs).take j)) ∧ Below (b + 1) w2 wr) (fun _ n _ => (intOf n + 1).toNat)
      case atStart => exact ⟨0, Nat.zero_le _, by simp, (by rw [List.take_zero, List.append_nil]; exact hown3), hB3⟩
      case round =>
        clear hown3 hB3
        obtain ⟨j, hj, rfl, hown, hB⟩ := hrel
        obtain ⟨A, c, rfl⟩ := own_slice hown
        by_cases hjL : j < L
        · have hq2 : wr.cell? ⟨b, 2, none⟩ = some (.slice (some x2) 257 c2) := by rw [cell_of_row wr b _ _ _ _ ((hB.block b (by omega)).trans HBL.out)]; rfl
          have hbz : b + 1 ≤ wr.heap.size := heap_lt ((hB.block b (by omega)).trans HBL.out)
          have hc2 := (hB.cell (p := x2.add K) (by rw [add_block]; omega)).trans HK2.out
          have hbat := bitsN_at L cs j hjL
          have htk : out ++ (Hf.bitsN L cs).take (j + 1) = (out ++ (Hf.bitsN L cs).take j) ++ [cs / 2 ^ (L - 1 - j) % 2] := by rw [List.take_add_one, hbat, List.append_assoc]; rfl
          have HT := Lib.hid htk
          have hlo : (out ++ (Hf.bitsN L cs).take j).length ≤ 30 * k + 30 := by
            have := List.length_take_le j (Hf.bitsN L cs)
            rw [List.length_append]
            have := HL3.out
            omega
          have HLO := Lib.hid hlo
          clear hbat htk hlo
          generalize out ++ (Hf.bitsN L cs).take j = o2 at *
          have he : (L : Int) - 1 - (j : Int) = ((L - 1 - j : Nat) : Int) := by omega
          rw [he]
          have hdj : L - 1 - j < 30 := by have := HLX.out; omega
          have HJ := Lib.hid hjL
          have HE := Lib.hid he
          clear he hjL
          generalize hd : L - 1 - j = d at *
          have HD := Lib.hid hd
          clear hd
          have hdI : (d : Int) ≤ 30 := by omega
          go_wp2
          go_loop [8, 9] (fun x m => ∃ q : Nat, q ≤ d ∧ m = .int .i64 (q : Int) ∧ x = .int .i64 ((cs / 2 ^ q : Nat) : Int)) (fun _ m => d - (intOf m).toNat)
          case atStart => exact ⟨0, Nat.zero_le _, rfl, by simp⟩
          case round =>
            obtain ⟨q, hq, rfl, rfl⟩ := hrel
            have hle : cs / 2 ^ q ≤ cs := Nat.div_le_self _ _
            have hdv : cs / 2 ^ (q + 1) = cs / 2 ^ q / 2 := by rw [Nat.pow_succ, Nat.div_div_eq_div_mul]
            by_cases hlt : q < d
            · have HDV := Lib.hid hdv
              have hltI : (q : Int) < (d : Int) := by omega
              have HQ := Lib.hid hlt
              clear hdv hlt hq
              generalize cs / 2 ^ q = z at *
              have hz : IntKind.i64.wrap ((z : Int) / 2) = ((z / 2 : Nat) : Int) := IntWalk.i64_in _ (by have := HCX.out; omega)
              have hzI : (z : Int) ≤ 1073741824 := by have := HCX.out; omega
              clear hle
              go_wp2
              go_round
              case rel => exact ⟨q + 1, by have := HQ.out; omega, by go_num, by rw [HDV.out]; first | rfl | go_num⟩
              case measure => have := HQ.out; simp [intOf]; omega
            · obtain rfl : q = d := by omega
              clear hdv hlt hq
              generalize hz : cs / 2 ^ q = z at *
              have HZ := Lib.hid hz
              clear hz
              have hzI : (z : Int) ≤ 1073741824 := by have := HCX.out; omega
              clear hle
              have hm1 : (z : Int) % 2 = ((z % 2 : Nat) : Int) := by omega
              have hm2 : (z : Int).tmod 2 = ((z % 2 : Nat) : Int) := by rw [Int.tmod_eq_emod_of_nonneg (by omega)]; rfl
              have hm3 : ((z % 2 : Nat) : Int) % 256 = ((z % 2 : Nat) : Int) := by omega
              have hbt : z % 2 < 2 := Nat.mod_lt _ (by omega)
              generalize hbb : z % 2 = bt at *
              have HBB := Lib.hid hbb
              have HBT := Lib.hid hbt
              have HM := Lib.hid hm1
              have HLO2 := HLO
              clear hbb hbt
              go_wp2_with (at_builtin; go_must (refine wpList_push (b + 1) (by rfl) _ _ 39 5 _ 1 (by rfl) Try.underlying39 info_u8 rfl (.slice A o2.length c) o2.length (u8s o2) (.int .u8 (bt : Int)) (by rfl) (by rfl) rfl (by exact hown) (by exact hbz) (by have := HLO.out; have := HLT.out; have := HHS.out; unfold maxLen; omega) (by have := HLO.out; have := HLT.out; have := HHS.out; omega) ?_; intro v5 w5 hown5 hg5 hat5))
              obtain ⟨A5, c5, rfl⟩ := own_slice hown5
              have hB5 : Below (b + 1) w2 w5 := (hB.alloc (by have := HSZ.out; omega) _).grown hg5 (by simp; omega) (fun g hg => (hown.lt g hg).1)
              have hfin : o2 ++ [bt] = out ++ (Hf.bitsN L cs).take (j + 1) := by rw [HT.out, ← HBB.out, ← HZ.out]
              have hown6 : w5.ownsRow (b + 1) 5 1 (.slice A5 (o2.length + 1) c5) (o2 ++ [bt]).length (u8s (o2 ++ [bt])) := by
                rw [u8s_append, List.length_append]; exact hown5
              go_roundw
              case measure => have := HJ.out; simp [intOf] <;> omega
              case rel => exact ⟨j + 1, by have := HJ.out; omega, (congrArg (Value.int .i64) (by have := HE.out; omega)), (by rw [← hfin]; exact hown6), hB5⟩
        · obtain rfl : j = L := by omega
          have he : (j : Int) - 1 - (j : Int) = -1 := by omega
          rw [he]
          have hfin : out ++ (Hf.bitsN j cs).take j = Hf.encBits ((nats s).take (k + 1)) := by
            rw [HTK.out, List.take_of_length_le (by rw [Hf.bitsN_length]; omega)]
          rw [hfin] at hown ⊢
          clear he hfin
          have hkB : (k : Int) ≤ 1099511627776 := by have := HLT.out; have := HHS.out; omega
          go_wp2
          go_roundw
          case measure => have := HLT.out; simp [intOf]; omega
          case rel => exact ⟨k + 1, by have := HLT.out; omega, by go_num, hown, hB⟩
    · obtain rfl : k = s.size := by omega
      have hfull : (nats s).take s.size = nats s := List.take_of_length_le (by rw [nats_length]; omega)
      rw [hfull] at hown ⊢
      clear hfull
      have hownF := own_mono hown (show w.heap.size ≤ b + 1 by omega)
      have hBF : Below w.heap.size w wr := hB2.trans (hB.mono (by omega))
      clear hown
      go_wp2
      go_ret
      exact ⟨A, c, rfl, hownF, hBF⟩
end Go.Proofs.Ytaogmekmampegaa
