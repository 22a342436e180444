/- The reference's codes, walked: the symbols in the document's order, their lengths and their codes. -/
import Derived.Test.YtaogmekmampegaaRb
namespace Go.Proofs.Ytaogmekmampegaa
open Go.RowKit
attribute [local go_sem ↓] Go.wp_at_zero Go.wp_at_succ

def cr (l : List Nat) : Nat → List Nat
  | 0 => l
  | 1 => l.map Hf.len
  | _ => l.map Hf.code
theorem Cb.congr {w : World} {b : Nat} {hv : Nat → Value} {rows rows' : Nat → List Nat} (h : Cb w b hv rows) (he : ∀ i, i < 3 → rows i = rows' i) : Cb w b hv rows' :=
  ⟨h.blk, fun i hi => by rw [← he i hi]; exact h.own i hi, h.apart⟩
theorem cr_nil (i : Nat) : cr [] i = [] := by
  match i with
  | 0 => rfl
  | 1 => rfl
  | n + 2 => rfl
theorem cb_init0 (w : World) : Cb (w.alloc (.cells #[.slice none 0 0, .slice none 0 0, .slice none 0 0] 59)) w.heap.size (fun _ => .slice none 0 0) (fun _ => []) :=
  ⟨heap_alloc_new w _, fun _ _ => World.ownsRow_nil _ _ _ _, fun _ _ _ _ _ => .inl rfl⟩
theorem cb_init (w : World) : Cb (w.alloc (.cells #[.slice none 0 0, .slice none 0 0, .slice none 0 0] 59)) w.heap.size (fun _ => .slice none 0 0) (cr []) :=
  (cb_init0 w).congr fun i _ => (cr_nil i).symm
/-- The three rows, as whoever calls sees them. -/
def Cds (w : World) (v0 v1 v2 : Value) : Prop := ∃ (x0 x1 x2 : Addr) (c0 c1 c2 : Nat), v0 = .slice (some x0) 257 c0 ∧ v1 = .slice (some x1) 257 c1 ∧ v2 = .slice (some x2) 257 c2 ∧ ∀ k, k < 257 → w.cell? (x0.add k) = some (.int .i64 (Hf.ord.getD k 0 : Nat)) ∧ w.cell? (x1.add k) = some (.int .i64 (Hf.len (Hf.ord.getD k 0) : Nat)) ∧ w.cell? (x2.add k) = some (.int .i64 (Hf.code (Hf.ord.getD k 0) : Nat))
theorem cr_len (l : List Nat) (i : Nat) (hi : i < 3) : (cr l i).length = l.length := by
  match i, hi with
  | 0, _ => rfl
  | 1, _ => exact List.length_map ..
  | 2, _ => exact List.length_map ..
theorem cr_cell {w : World} {b : Nat} {hv : Nat → Value} (h : Cb w b hv (cr Hf.ord)) (i : Nat) (hi : i < 3) : ∃ (x : Addr) (c : Nat), hv i = .slice (some x) 257 c ∧ ∀ k, k < 257 → w.cell? (x.add k) = some (.int .i64 ((cr Hf.ord i).getD k 0 : Nat)) := by
  have h1 := h.own i hi
  have hl : (cr Hf.ord i).length = 257 := (cr_len Hf.ord i hi).trans Hf.ord_length
  rw [hl] at h1
  obtain ⟨A, c, hA⟩ := own_slice h1
  rw [hA] at h1
  obtain ⟨x, _, rfl, _, _⟩ := own_at h1 0 (by omega)
  refine ⟨x, c, hA, fun k hk => ?_⟩
  obtain ⟨y, u, hy, hu, hc⟩ := own_at h1 k hk
  injection hy with hy
  subst hy
  rw [i64s_at _ _ (by omega)] at hu
  injection hu with hu
  subst hu
  exact hc
theorem map_getD (f : Nat → Nat) (l : List Nat) (k : Nat) (h : k < l.length) : (l.map f).getD k 0 = f (l.getD k 0) := by
  simp [List.getD_eq_getElem?_getD, h]
theorem cds_of {w : World} {b : Nat} {hv : Nat → Value} (h : Cb w b hv (cr Hf.ord)) : Cds w (hv 0) (hv 1) (hv 2) := by
  obtain ⟨x0, c0, e0, h0⟩ := cr_cell h 0 (by omega)
  obtain ⟨x1, c1, e1, h1⟩ := cr_cell h 1 (by omega)
  obtain ⟨x2, c2, e2, h2⟩ := cr_cell h 2 (by omega)
  refine ⟨x0, x1, x2, c0, c1, c2, e0, e1, e2, fun k hk => ⟨h0 k hk, ?_, ?_⟩⟩
  · rw [h1 k hk, ← map_getD Hf.len _ _ (by rw [Hf.ord_length]; exact hk)]; rfl
  · rw [h2 k hk, ← map_getD Hf.code _ _ (by rw [Hf.ord_length]; exact hk)]; rfl
theorem cr_apart {w : World} {b : Nat} {hv : Nat → Value} (h : Cb w b hv (cr Hf.ord)) (i : Nat) (hi : i < 3) (x : Addr) (c : Nat) (he : hv i = .slice (some x) 257 c) : b < x.block := by
  have h1 := h.own i hi
  have hl : (cr Hf.ord i).length = 257 := (cr_len Hf.ord i hi).trans Hf.ord_length
  rw [hl] at h1
  obtain ⟨g, cap, hv', _, _⟩ := h1.form (by omega)
  have := (h1.lt g (by rw [hv']; rfl)).1
  rw [hv'] at he
  injection he with he
  injection he with he
  subst he
  show b < g
  omega
theorem cds_apart {w : World} {b r : Nat} {hv : Nat → Value} (h : Cb w b hv (cr Hf.ord)) (hr : r < b) : ∀ v, (v = hv 0 ∨ v = hv 1 ∨ v = hv 2) → ∀ x c, v = .slice (some x) 257 c → x.block ≠ r := by
  intro v hv' x c he e
  rcases hv' with rfl | rfl | rfl
  · have := cr_apart h 0 (by omega) x c he; omega
  · have := cr_apart h 1 (by omega) x c he; omega
  · have := cr_apart h 2 (by omega) x c he; omega
theorem cds_only {S : Nat → Prop} {w w' : World} {v0 v1 v2 : Value} (h : Cds w v0 v1 v2) (ho : Only S w w') (hS : ∀ v, (v = v0 ∨ v = v1 ∨ v = v2) → ∀ x c, v = .slice (some x) 257 c → ¬ S x.block) : Cds w' v0 v1 v2 := by
  obtain ⟨x0, x1, x2, c0, c1, c2, e0, e1, e2, hk⟩ := h
  refine ⟨x0, x1, x2, c0, c1, c2, e0, e1, e2, fun k h => ?_⟩
  obtain ⟨h0, h1, h2⟩ := hk k h
  exact ⟨ho.cell' h0 (by rw [add_block]; exact hS v0 (.inl rfl) x0 c0 e0), ho.cell' h1 (by rw [add_block]; exact hS v1 (.inr (.inl rfl)) x1 c1 e1), ho.cell' h2 (by rw [add_block]; exact hS v2 (.inr (.inr rfl)) x2 c2 e2)⟩
theorem lens_cells {w : World} {base : Nat} {A : Option Addr} {c : Nat} (h : w.ownsRow base 3 1 (.slice A 257 c) 257 (i64s Hf.lens)) : ∃ p : Addr, A = some p ∧ p.block < w.heap.size ∧ ∀ s, s < 257 → w.cell? (p.add s) = some (.int .i64 (Hf.len s : Nat)) := by
  obtain ⟨x, _, rfl, _, hc0⟩ := own_at h 0 (by omega)
  refine ⟨x, rfl, ?_, fun k hk => ?_⟩
  · have := World.block_lt_of_cell? w _ hc0
    rwa [add_block] at this
  · obtain ⟨y, u, hy, hu, hc⟩ := own_at h k hk
    injection hy with hy
    subst hy
    rw [i64s_at _ _ (by rw [Hf.lens_length]; exact hk)] at hu
    injection hu with hu
    subst hu
    exact hc

set_option maxRecDepth 100000 in
set_option maxHeartbeats 2000000 in
theorem refCodes_any (w : World) : Calls Try.prog 28 #[] w fun e w' => ∃ v0 v1 v2, e = .returned (.agg #[v0, v1, v2]) ∧ Cds w' v0 v1 v2 ∧ Below w.heap.size w w' := by
  go_enter Try.func28, Try.ntmps28
  go_wp2_with fail
  refine (refLengths_any _).mono ?_
  rintro e w1 ⟨A, c, rfl, hown, hb1⟩
  obtain ⟨p, rfl, hpb, hlens⟩ := lens_cells hown
  have HLENS := Lib.hid hlens
  clear hlens hown
  have hr0 : w1.heap[w.heap.size]? = some (.cells #[.slice none 0 0, .slice none 0 0, .slice none 0 0] 59 (0, 0)) := (hb1.block _ (by simp)).trans (heap_alloc_new w _)
  have hrl := heap_lt hr0
  have hbw : Below w.heap.size w w1 := ((Below.refl w.heap.size w).alloc (Nat.le_refl _) _).trans (hb1.mono (by simp))
  have hT0 := cb_init w1
  have hB0 : Below w1.heap.size w1 (w1.alloc (.cells #[.slice none 0 0, .slice none 0 0, .slice none 0 0] 59)) := (Below.refl _ _).alloc (Nat.le_refl _) _
  have HR0 := Lib.hid hr0
  generalize hr : w.heap.size = r at *
  clear hb1 hr0
  go_wp2
  generalize hb : w1.heap.size = b at *
  have HBE := Lib.hid hb
  clear hb
  go_loopw [3, 4, 5] (fun x y i wr => ∃ (n : Nat) (hv : Nat → Value), 1 ≤ n ∧ n ≤ 31 ∧ i = .int .i64 (n : Int) ∧ x = .int .i64 ((Hf.lastOf (Hf.ahead n 0)).1 : Nat) ∧ y = .int .i64 ((Hf.lastOf (Hf.ahead n 0)).2 : Nat) ∧ Cb wr b hv (cr (Hf.ahead n 0)) ∧ Below b w1 wr) (fun _ _ i _ => 31 - (intOf i).toNat)
  case atStart => exact ⟨1, _, by omega, by omega, rfl, (by rw [Hf.ahead_zero]; rfl), (by rw [Hf.ahead_zero]; rfl), (by rw [Hf.ahead_zero]; exact hT0), hB0⟩
  case round =>
    obtain ⟨n, hv, hn1, hn31, rfl, rfl, rfl, hT, hB⟩ := hrel
    by_cases hlt : n < 31
    · have hnI : (n : Int) ≤ 30 := by omega
      clear hT0 hB0
      generalize hlc : Hf.lastOf (Hf.ahead n 0) = lp
      have HLP := Lib.hid hlc
      clear hlc
      go_wp2
      go_loopw [3, 4, 6] (fun x y i wr => ∃ (s : Nat) (hv : Nat → Value), s ≤ 257 ∧ i = .int .i64 (s : Int) ∧ x = .int .i64 ((Hf.lastOf (Hf.ahead n s)).1 : Nat) ∧ y = .int .i64 ((Hf.lastOf (Hf.ahead n s)).2 : Nat) ∧ Cb wr b hv (cr (Hf.ahead n s)) ∧ Below b w1 wr) (fun _ _ i _ => 257 - (intOf i).toNat)
      case atStart => exact ⟨0, hv, by omega, rfl, (by rw [HLP.out]), (by rw [HLP.out]), hT, hB⟩
      case round =>
        clear hT hB
        obtain ⟨s, hv, hs, rfl, rfl, rfl, hT, hB⟩ := hrel
        by_cases hlts : s < 257
        · have hcs : _ = _ := (hB.cell (p := p.add s) (by rw [add_block]; have := HBE.out; omega)).trans (HLENS.out s hlts)
          have hsI : (s : Int) < 257 := by omega
          have hbl := hT.lt
          by_cases hln : Hf.len s = n
          · rw [hln] at hcs
            have hnx := Hf.code_next s hlts
            have htk := Hf.ahead_take s
            have hll := Hf.ahead_le n s (by omega) (by omega)
            have hlb := Hf.last_bd n s (by omega)
            have hcb := Hf.code_bd s hlts
            rw [hln] at hnx htk
            generalize Hf.ahead n s = L at *
            have HTK := Lib.hid htk
            have HLN := Lib.hid hln
            clear htk hln
            have hlast := Hf.lastOf_snoc L s
            rw [HLN.out] at hlast
            have HLAST := Lib.hid hlast
            clear hlast
            obtain ⟨lc, lw, hlp⟩ : ∃ lc lw, Hf.lastOf L = (lc, lw) := ⟨_, _, rfl⟩
            rw [hlp] at hnx hlb ⊢
            simp only at hnx hlb ⊢
            have hl0 : L = [] → lc = 0 := by
              intro e
              rw [e] at hlp
              have h2 : (0, 0) = (lc, lw) := hlp
              injection h2 with h2 _
              exact h2.symm
            clear hlp
            generalize hcse : Hf.code s = cs at *
            have HCS := Lib.hid hcse
            clear hcse
            have hl1 : (cr L 1).length = L.length := by show (L.map Hf.len).length = _; rw [List.length_map]
            have hl2 : (cr L 2).length = L.length := by show (L.map Hf.code).length = _; rw [List.length_map]
            have HCL := Lib.hid hl1
            have HCL2 := Lib.hid hl2
            obtain ⟨A0, c0, hA0⟩ := own_slice (hT.own 0 (by omega))
            obtain ⟨A1, c1, hA1⟩ := own_slice (hT.own 1 (by omega))
            obtain ⟨A2, c2, hA2⟩ := own_slice (hT.own 2 (by omega))
            rw [hl1] at hA1
            rw [hl2] at hA2
            have hA0 : hv 0 = .slice A0 L.length c0 := hA0
            have hc0 := hT.cell 0 (by omega)
            rw [hA0] at hc0
            have HA0 := Lib.hid hA0
            have HA1 := Lib.hid hA1
            have HA2 := Lib.hid hA2
            clear hA0 hA1 hA2 hl1 hl2
            have HNX := Lib.hid hnx
            have HL0 := Lib.hid hl0
            clear hnx hl0
            have hlcI : (lc : Int) ≤ 1073741824 := by omega
            have hlwI : (lw : Int) ≤ 30 := by omega
            go_upto_if 27 with fail
            go_cut [3] (fun s3 wx => s3 = .int .i64 (cs : Int) ∧ wx = wr)
            case first =>
              by_cases he : L.length = 0
              · have he0 : L = [] := List.eq_nil_of_length_eq_zero he
                have h1 := HNX.out.1 he0
                have h2 := HL0.out he0
                subst h1
                subst h2
                have heI : ¬ (0 : Int) < (L.length : Int) := by omega
                clear he he0
                go_wp2
                go_meet
                exact ⟨rfl, rfl⟩
              · obtain ⟨h1, h2⟩ := HNX.out.2 (fun e => he (by rw [e]; rfl))
                have heI : (0 : Int) < (L.length : Int) := by omega
                clear he
                have H2 := Lib.hid h2
                clear h2
                have hw1 : IntKind.i64.wrap ((lc : Int) + 1) = ((lc + 1 : Nat) : Int) := IntWalk.i64_in _ (by omega)
                go_wp2
                go_loopw [3, 4] (fun x y wy => ∃ j : Nat, lw + j ≤ n ∧ y = .int .i64 ((lw + j : Nat) : Int) ∧ x = .int .i64 (((lc + 1) * 2 ^ j : Nat) : Int) ∧ wy = wr) (fun _ y _ => n - (intOf y).toNat)
                case atStart => exact ⟨0, by omega, rfl, by simp, rfl⟩
                case round =>
                  obtain ⟨j, hj, rfl, rfl, rfl⟩ := hrel
                  by_cases hlt3 : lw + j < n
                  · have hx : (lc + 1) * 2 ^ j ≤ cs := by
                      rw [H2.out]
                      exact Nat.mul_le_mul_left _ (Nat.pow_le_pow_right (by omega) (by omega))
                    have hsu : (lc + 1) * 2 ^ (j + 1) = 2 * ((lc + 1) * 2 ^ j) := by rw [Nat.pow_succ, ← Nat.mul_assoc, Nat.mul_comm]
                    have HSU := Lib.hid hsu
                    clear hsu
                    have hltI : ((lw + j : Nat) : Int) < (n : Int) := by omega
                    generalize (lc + 1) * 2 ^ j = x at *
                    have hxI : (x : Int) ≤ 1073741824 := by omega
                    have hq : ((lw + j : Nat) : Int) ≤ 31 := by omega
                    have hyy : lw + (j + 1) = lw + j + 1 := rfl
                    have HYY := Lib.hid hyy
                    clear hyy
                    generalize hy : lw + j = y at *
                    have HY := Lib.hid hy
                    clear hx hj hy
                    go_wp2
                    go_roundw
                    case measure => simp [intOf]; omega
                    case rel => exact ⟨j + 1, by rw [HYY.out]; omega, (by rw [HYY.out]; exact congrArg (Value.int .i64) (by omega)), (by rw [HSU.out]; exact congrArg (Value.int .i64) (by omega)), trivial⟩
                  · have hjj : j = n - lw := by omega
                    have hcs2 : (lc + 1) * 2 ^ j = cs := by rw [H2.out, hjj]
                    rw [hcs2]
                    have hltI : ¬ ((lw + j : Nat) : Int) < (n : Int) := by omega
                    clear hjj hcs2 hlt3
                    generalize lw + j = y at *
                    go_wp2
                    go_meet
                    exact ⟨rfl, rfl⟩
            case rest =>
              obtain ⟨rfl, rfl⟩ := hcut
              go_upto_region 19 with (at_builtin; go_must (refine wpList_cpush hT 0 (by omega) _ _ (by rfl) (by rfl) A0 L.length c0 s HA0.out (by rfl) (by rfl) (by rfl) (by omega) ?_; intro A3 c3 w2 hT1 hk1 hz1 hB1))
              have hB1 := hB1 _ _ hB (by omega) (by omega)
              generalize w2.setCell ⟨b, 0, none⟩ (.slice A3 (L.length + 1) c3) = wa at *
              clear hk1 hz1 hc0
              have hca := hT1.cell 1 (by omega)
              rw [up_ne _ _ (by omega), HA1.out] at hca
              have hba := hT1.lt
              go_upto_region 20 with (at_builtin; go_must (refine wpList_cpush hT1 1 (by omega) _ _ (by rfl) (by rfl) A1 L.length c1 n (by rw [up_ne _ _ (by omega)]; exact HA1.out) (by rw [up_ne _ _ (by omega)]; exact HCL.out) (by rfl) (by rfl) (by omega) ?_; intro A4 c4 w3 hT2 hk2 hz2 hB2))
              have hB2 := hB2 _ _ hB1 (by omega) (by omega)
              generalize w3.setCell ⟨b, 1, none⟩ (.slice A4 (L.length + 1) c4) = wb at *
              clear hk2 hz2 hca
              have hcb2 := hT2.cell 2 (by omega)
              rw [up_ne _ _ (by omega), up_ne _ _ (by omega), HA2.out] at hcb2
              have hbb := hT2.lt
              go_wp2_with (at_builtin; go_must (refine wpList_cpush hT2 2 (by omega) _ _ (by rfl) (by rfl) A2 L.length c2 cs (by rw [up_ne _ _ (by omega), up_ne _ _ (by omega)]; exact HA2.out) (by rw [up_ne _ _ (by omega), up_ne _ _ (by omega)]; exact HCL2.out) (by rfl) (by rfl) (by omega) ?_; intro A5 c5 w4 hT3 hk3 hz3 hB3))
              have hB3 := hB3 _ _ hB2 (by omega) (by omega)
              have hT4 := hT3.congr (rows' := cr (L ++ [s])) (fun i hi => by
                match i, hi with
                | 0, _ => rfl
                | 1, _ => show L.map Hf.len ++ [n] = (L ++ [s]).map Hf.len; rw [List.map_append, ← HLN.out]; rfl
                | 2, _ => show L.map Hf.code ++ [cs] = (L ++ [s]).map Hf.code; rw [List.map_append, ← HCS.out]; rfl)
              go_roundw
              case measure => simp [intOf]; omega
              case rel => exact ⟨s + 1, _, by omega, (by go_num), (by rw [HTK.out, HLAST.out]), (by rw [HTK.out, HLAST.out]), (by rw [HTK.out]; exact hT4), hB3⟩
          · have hne : (((Hf.len s : Nat) : Int) != (n : Int)) = true := by rw [bne_iff_ne]; omega
            have hsk := Hf.ahead_skip n s hln
            rw [← hsk] at hT
            obtain ⟨L, hL⟩ : ∃ L, Hf.ahead n (s + 1) = L := ⟨_, rfl⟩
            rw [← hsk, hL]
            rw [hL] at hT
            have HL := Lib.hid hL
            clear hsk hL hln
            generalize Hf.len s = q at *
            go_wp2
            go_roundw
            case measure => simp [intOf]; omega
            case rel => exact ⟨s + 1, hv, by omega, (by go_num), (by rw [HL.out]), (by rw [HL.out]), (by rw [HL.out]; exact hT), hB⟩
        · obtain rfl : s = 257 := by omega
          have hae := Hf.ahead_end n hlt
          rw [hae] at hT ⊢
          clear hae
          obtain ⟨L, hL⟩ : ∃ L, Hf.ahead (n + 1) 0 = L := ⟨_, rfl⟩
          rw [hL] at hT ⊢
          have HL := Lib.hid hL
          clear hL
          go_wp2
          go_roundw
          case measure => simp [intOf]; omega
          case rel => exact ⟨n + 1, hv, by omega, by omega, (by go_num), (by rw [HL.out]), (by rw [HL.out]), (by rw [HL.out]; exact hT), hB⟩
    · obtain rfl : n = 31 := by omega
      rw [Hf.ahead_all] at hT ⊢
      have hcd := cds_of hT
      have hne := cds_apart hT (show r < b by exact hrl)
      have hc0 := hT.cell 0 (by omega)
      have hc1 := hT.cell 1 (by omega)
      have hc2 := hT.cell 2 (by omega)
      have hrr : wr.heap[r]? = _ := (hB.block r hrl).trans HR0.out
      have hr0c : wr.cell? ⟨r, 0, none⟩ = some (.slice none 0 0) := by rw [cell_of_row wr r _ _ _ _ hrr]; rfl
      have hr1c : wr.cell? ⟨r, 1, none⟩ = some (.slice none 0 0) := by rw [cell_of_row wr r _ _ _ _ hrr]; rfl
      have hr2c : wr.cell? ⟨r, 2, none⟩ = some (.slice none 0 0) := by rw [cell_of_row wr r _ _ _ _ hrr]; rfl
      have hrf := fun i => frozen_of_row wr r i _ _ hrr
      have hr0f := hrf 0
      have hr1f := hrf 1
      have hr2f := hrf 2
      clear hrf
      obtain ⟨A0, c0, hA0⟩ := own_slice (hT.own 0 (by omega))
      obtain ⟨A1, c1, hA1⟩ := own_slice (hT.own 1 (by omega))
      obtain ⟨A2, c2, hA2⟩ := own_slice (hT.own 2 (by omega))
      have hl0 := (cr_len Hf.ord 0 (by omega)).trans Hf.ord_length
      have hl1 := (cr_len Hf.ord 1 (by omega)).trans Hf.ord_length
      have hl2 := (cr_len Hf.ord 2 (by omega)).trans Hf.ord_length
      rw [hl0] at hA0
      rw [hl1] at hA1
      rw [hl2] at hA2
      rw [hA0, hA1, hA2] at hcd hne
      rw [hA0] at hc0
      rw [hA1] at hc1
      rw [hA2] at hc2
      generalize Hf.lastOf Hf.ord = lp at *
      clear hA0 hA1 hA2 hT hrr hl0 hl1 hl2 hT0 hB0
      go_wp2
      have hbelow : Below w.heap.size w (((wr.setCell ⟨r, 0, none⟩ (.slice A0 257 c0)).setCell ⟨r, 1, none⟩ (.slice A1 257 c1)).setCell ⟨r, 2, none⟩ (.slice A2 257 c2)) := by
        rw [hr]
        exact (((hbw.trans (hB.mono (by omega))).setCell (Nat.le_refl _) _).setCell (Nat.le_refl _) _).setCell (Nat.le_refl _) _
      have hcd2 := (((Only.refl (fun k => k = r) wr).setCell (p := ⟨r, 0, none⟩) (.inr rfl) (.slice A0 257 c0)).setCell (p := ⟨r, 1, none⟩) (.inr rfl) (.slice A1 257 c1)).setCell (p := ⟨r, 2, none⟩) (.inr rfl) (.slice A2 257 c2)
      have hcd3 := cds_only hcd hcd2 hne
      refine bodyPost_ret (v := .agg #[.slice A0 257 c0, .slice A1 257 c1, .slice A2 257 c2]) ?_ rfl ⟨_, _, _, rfl, hcd3, hbelow⟩
      simp [results, Try.results28, go_sem, hr0c, hr1c, hr2c]
end Go.Proofs.Ytaogmekmampegaa
