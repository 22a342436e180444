/- huff.made: the table of codes is laid out as the plain law says. -/
import Derived.Test.YtmjibpjnhehnnaaTb
import Derived.Deep.LoopGhost
import Derived.Deep.QuietTactic
import Derived.BigQuiet
import Derived.Deep.RegionLaw
namespace Go.Proofs.Ytmjibpjnhehnnaa
open Go.RowKit
attribute [local go_sem ↓] Go.wp_at_zero Go.wp_at_succ

def initA : Array Value := (Hf.lens.map (fun (n : Nat) => Value.int .u8 (n : Int)) ++ (List.replicate 257 (Value.int .u32 0) ++ (List.replicate 31 (Value.int .u32 0) ++ List.replicate 31 (Value.slice none 0 0)))).toArray
theorem four_cells (A B C D : List Value) (hA : A.length = 257) (hB : B.length = 257) (hC : C.length = 31) (hD : D.length = 31) {cd fs : Nat → Nat} {hv : Nat → Value}
    (h1 : ∀ s, s < 257 → A[s]? = some (.int .u8 (Hf.len s : Int))) (h2 : ∀ s, s < 257 → B[s]? = some (.int .u32 (cd s : Int))) (h3 : ∀ n, n < 31 → C[n]? = some (.int .u32 (fs n : Int))) (h4 : ∀ n, n < 31 → D[n]? = some (hv n)) :
    TbCells (A ++ (B ++ (C ++ D))).toArray cd fs hv := by
  refine ⟨by simp only [List.size_toArray, List.length_append, hA, hB, hC, hD], fun s hs => ?_, fun s hs => ?_, fun n hn => ?_, fun n hn => ?_⟩ <;> rw [List.getElem?_toArray]
  · rw [List.getElem?_append_left (by omega)]; exact h1 s hs
  · rw [List.getElem?_append_right (by omega), List.getElem?_append_left (by omega), hA, Nat.add_sub_cancel_left]; exact h2 s hs
  · rw [List.getElem?_append_right (by omega), List.getElem?_append_right (by omega), List.getElem?_append_left (by omega), hA, hB, show 514 + n - 257 - 257 = n by omega]; exact h3 n hn
  · rw [List.getElem?_append_right (by omega), List.getElem?_append_right (by omega), List.getElem?_append_right (by omega), hA, hB, hC, show 545 + n - 257 - 257 - 31 = n by omega]; exact h4 n hn
theorem rep_at (n i : Nat) (v : Value) (h : i < n) : (List.replicate n v)[i]? = some v := by rw [List.getElem?_replicate, if_pos h]
theorem initA_cells : TbCells initA (fun _ => 0) (fun _ => 0) (fun _ => .slice none 0 0) :=
  four_cells _ _ _ _ (by rw [List.length_map, Hf.lens_length]) (List.length_replicate ..) (List.length_replicate ..) (List.length_replicate ..)
    (fun s hs => by have h := lensA_at s hs; rw [lensA, List.getElem?_toArray] at h; exact h) (fun s hs => rep_at _ _ _ hs) (fun s hs => rep_at _ _ _ hs) (fun s hs => rep_at _ _ _ hs)
theorem tb_init (w : World) : Tb (w.alloc (.cells initA 132)) w.heap.size (fun _ => 0) (fun _ => 0) (fun _ => .slice none 0 0) (fun _ => []) :=
  ⟨⟨initA, heap_alloc_new w _, initA_cells⟩, fun _ _ => World.ownsRow_nil _ _ _ _, fun _ _ _ _ _ => .inl rfl⟩

/-- The made table. -/
def Made (w : World) (b : Nat) : Prop := ∃ hv, Tb w b Hf.code Hf.fst hv Hf.hav

theorem Tb.lens {w : World} {b : Nat} {cd fs : Nat → Nat} {hv : Nat → Value} {rows : Nat → List Nat} (h : Tb w b cd fs hv rows) : w.rangeAt b 0 lensA.toList := by
  intro j v hj
  have hl : j < 257 := by
    have := (List.getElem?_eq_some_iff.1 hj).1
    rw [Array.length_toList, lensA_size] at this
    exact this
  rw [Array.getElem?_toList, lensA_at j hl] at hj
  rw [Nat.zero_add, h.cellLen j hl]
  exact hj
theorem load_len {o : Oper} {a : Act} {p : Nat} (w : World) (b : Nat) (ho : o.op = .load 121 (.tmp p)) (h0 : a.eval (.tmp p) = .pointer (some ⟨b, 0, none⟩)) (hr : w.rangeAt b 0 lensA.toList) :
    (execOp a.eval o).run Try.prog w = .ok (.value (.agg lensA)) w := by
  have h := run_loadAt_mid (P := Try.prog) w b 0 121 lensA.toList _ hr Try.underlying121 rfl (by rw [Array.length_toList]; exact lensA_info)
  unfold execOp
  simp only [ho, h0, Sem.run_bind, h, Sem.run_pure, Result.andThen_ok, Array.toArray_toList]

theorem info_u16 : (Try.prog.info? 136).map (fun i => (i.zero, i.size, i.bytes)) = some (some (.int .u16 0), 1, 2) := by kernel_rfl
theorem run_index_len (s : Nat) (h : s < 257) (w : World) : (Instr.index 121 (.agg lensA) (.int .i64 (s : Int))).run Try.prog w = .ok (.int .u8 (Hf.len s : Int)) w := by
  have hat := lensA_at s h
  simp [Instr.index, asIntOf, run_underlying Try.underlying121]
  rw [if_pos h]
  simp [part, isAgg, run_underlying Try.underlying5, hat]
theorem Hf.fst_bd : ∀ m, m ≤ 30 → Hf.fst m + Hf.cnt m ≤ 1073741824 := by decide +kernel
/-- The rows after the first k symbols. -/
def rowsTo (k : Nat) (n : Nat) : List Nat := (List.range k).filter fun s => Hf.len s == n
theorem rowsTo_succ (k : Nat) (n : Nat) : rowsTo (k + 1) n = upd (rowsTo k) (Hf.len k) (rowsTo k (Hf.len k) ++ [k]) n := by
  simp only [rowsTo, List.range_succ, List.filter_append, List.filter_cons, List.filter_nil]
  by_cases e : n = Hf.len k
  · subst e
    rw [upd_same]
    simp
  · rw [upd_ne _ _ e]
    have : (Hf.len k == n) = false := by simpa using fun h => e h.symm
    simp [this, rowsTo]
theorem rowsTo_le (k n : Nat) : (rowsTo k n).length ≤ k := by
  have := List.length_filter_le (fun s => Hf.len s == n) (List.range k)
  simpa [rowsTo] using this

set_option maxRecDepth 100000 in
set_option maxHeartbeats 1000000 in
theorem made_any (w : World) : Calls Try.prog 80 #[] w fun e w' => ∃ b, e = .returned (.pointer (some ⟨b, 0, none⟩)) ∧ w.heap.size ≤ b ∧ Below w.heap.size w w' ∧ Made w' b := by
  go_enter Try.func80, Try.ntmps80
  refine wp_seq_k fun K1 hK1 => ?_
  refine wp_region_lit ?_
  refine wpList_closed rfl (v := .pointer none) (w' := w) (by kernel_rfl) ?_
  refine wpList_nil ?_
  refine hK1 _ _ ?_
  clear hK1 K1
  refine wp_seq_k fun K1 hK1 => ?_
  refine wp_region_lit ?_
  refine wpList_calls rfl 79 #[] (by kernel_rfl) ?_
  refine (lengths_any _).mono ?_
  rintro e w1 ⟨rfl, hb1⟩
  refine ⟨_, rfl, ?_⟩
  refine wpList_closed rfl (v := .agg initA) (w' := w1) (by kernel_rfl) ?_
  refine wpList_closed rfl (v := .pointer (some ⟨w1.heap.size, 0, none⟩)) (w' := w1.alloc (.cells initA 132)) (by kernel_rfl) ?_
  have hT := tb_init w1
  have hB : Below w.heap.size w (w1.alloc (.cells initA 132)) := hb1.alloc hb1.size _
  have hbw : w.heap.size ≤ w1.heap.size := hb1.size
  generalize hW : w1.alloc (.cells initA 132) = w2 at hT hB ⊢
  generalize w1.heap.size = b at hT hbw ⊢
  clear hW hb1
  clear w1
  refine wpList_closed rfl (v := .pointer (some ⟨b, 0, none⟩)) (w' := w2) (by rfl) ?_
  refine wpList_nil ?_
  refine hK1 _ _ ?_
  clear hK1 K1
  refine wp_seq_k fun K1 hK1 => ?_
  refine wp_seq_k fun K2 hK2 => ?_
  refine wp_region_lit ?_
  refine wpList_closed rfl (v := .pointer (some ⟨b, 0, none⟩)) (w' := w2) (by rfl) ?_
  refine wpList_closed rfl (v := .pointer (some ⟨b, 0, none⟩)) (w' := w2) (by rfl) ?_
  refine wpList_closed rfl (v := .pointer (some ⟨b, 0, none⟩)) (w' := w2) (by rfl) ?_
  refine wpList_closed rfl (v := .agg lensA) (w' := w2) (load_len w2 b rfl rfl hT.lens) ?_
  refine wpList_closed rfl (v := .int .i64 0) (w' := w2) (by rfl) ?_
  refine wpList_nil ?_
  refine hK2 _ _ ?_
  clear hK2 K2
  go_wp2
  go_loopw [15] (fun i wr => ∃ (k : Nat) (hv : Nat → Value), k ≤ 257 ∧ i = .int .i64 k ∧ Tb wr b (fun _ => 0) (fun _ => 0) hv (rowsTo k) ∧ Below w.heap.size w wr) (fun i _ => 257 - (intOf i).toNat)
  case atStart => exact ⟨0, _, Nat.zero_le _, rfl, hT, hB⟩
  case round =>
    obtain ⟨k, hv, hk, rfl, hTr, hBr⟩ := hrel
    by_cases hlt : k < 257
    · have hix := run_index_len k hlt
      obtain ⟨h5, h30⟩ := Hf.len_bd k hlt
      have hrows := rowsTo_succ k
      have hle := rowsTo_le k (Hf.len k)
      have hkI : (k : Int) < 257 := by omega
      generalize Hf.len k = n at h5 h30 hix hrows hle
      have hHROWS := Lib.hid hrows
      clear hrows
      have hcv := hTr.cellHaving n (by omega)
      have hown := hTr.own n (by omega)
      have hbl := hTr.lt
      have hfz := hTr.thawed (545 + n)
      have hn0 : (0 : Int) ≤ (n : Int) := by omega
      have hn1 : (n : Int) < 31 := by omega
      go_wp2
      have hwr : IntKind.u16.wrap (k : Int) = (k : Int) := IntWalk.u16_in _ (by omega)
      go_region_law (first | (refine if_pos_wp (by rfl) ?_; go_must (refine wp_push_drew (W := wr) (b + 1) _ _ 129 136 (.int .u16 0) 2 (by rfl) Try.underlying129 info_u16 rfl (hv n) (rowsTo k n).length (u16s (rowsTo k n)) (.int .u16 (k : Int)) (by rfl) (by rfl) rfl (by exact hown) (by show b + 1 ≤ wr.heap.size; omega) (by unfold maxLen; omega) (by omega) ?_); intro v1 w1 hown1 hg1 hat1; obtain ⟨A1, c1, rfl⟩ := own_slice hown1; have hp1 := Tb.pushed hTr n (by omega) hg1; have hc1 : w1.cell? ⟨b, 545 + n, none⟩ = some (hv n) := (World.cell?_of_block (a := ⟨b, 545 + n, none⟩) hp1).trans hcv; have hf1 : w1.frozen? ⟨b, 545 + n, none⟩ = false := (World.frozen?_of_block (a := ⟨b, 545 + n, none⟩) hp1).trans hfz))
      all_goals
        have hT2 := (hTr.push n k (by omega) hown1 hg1 hat1).congr (cd' := fun _ => 0) (fs' := fun _ => 0) (rows' := rowsTo (k + 1)) (fun _ _ => rfl) (fun _ _ => rfl) (fun m _ => (hHROWS.out m).symm)
        have hB2 : Below w.heap.size w (w1.setCell ⟨b, 545 + n, none⟩ (.slice A1 ((rowsTo k n).length + 1) c1)) := ((hBr.alloc hBr.size _).grown hg1 (by have := hBr.size; simp; omega) (fun g hg => by have := (hown.lt g hg).1; omega)).setCell (by show w.heap.size ≤ b; exact hbw) _
        clear hown hown1 hg1 hat1 hp1 hc1 hf1 hTr hBr hix hcv hfz hT hB
        go_wp2
        go_roundw
        case measure => simp [intOf]; omega
        case rel => exact ⟨k + 1, _, by omega, by simp, hT2, hB2⟩
    · obtain rfl : k = 257 := by omega
      have hT2 := hTr.congr (cd' := fun _ => 0) (fs' := fun _ => 0) (rows' := Hf.hav) (fun _ _ => rfl) (fun _ _ => rfl) (fun m hm => (Hf.hav_eq m hm).symm)
      clear hTr hT
      go_wp2
      go_loopw [4, 5] (fun x i wr => ∃ (m : Nat) (cd fs : Nat → Nat), m ≤ 30 ∧ i = .int .i64 ((m + 1 : Nat) : Int) ∧ x = .int .u32 ((Hf.fst m + Hf.cnt m : Nat) : Int) ∧ Tb wr b cd fs hv Hf.hav ∧ (∀ s, s < 257 → Hf.len s ≤ m → cd s = Hf.code s) ∧ (∀ n, n ≤ m → fs n = Hf.fst n) ∧ Below w.heap.size w wr) (fun _ i _ => 31 - (intOf i).toNat)
      case atStart => exact ⟨0, _, _, by omega, rfl, rfl, hT2, fun s hs h => by have := (Hf.len_bd s hs).1; omega, fun n hn => (by have h0 : n = 0 := (by omega); subst h0; exact Hf.fst_zero.symm), hBr⟩
      case round =>
        obtain ⟨m, cd, fs, hm, rfl, rfl, hTr, hcd, hfs, hBr2⟩ := hrel
        have HCD := Lib.hid hcd
        have HFS := Lib.hid hfs
        clear hcd hfs
        by_cases hlt : m < 30
        · have hfst := Hf.fst_succ m hlt
          have hbd := Hf.fst_bd m hm
          generalize Hf.fst m + Hf.cnt m = x at hfst hbd ⊢
          have hx1 : (x : Int) ≤ 1073741824 := by omega
          have hm0 : ((m + 1 : Nat) : Int) ≤ 30 := by omega
          generalize hm1 : m + 1 = j at hm0 hfst ⊢
          have hj : j < 31 := by omega
          have hfj : ((Hf.fst j : Nat) : Int) = (x : Int) * 2 := by omega
          have hbj := Hf.fst_bd j (by omega)
          have hT3 := hTr.setFirst j (Hf.fst j) hj
          rw [hfj] at hT3
          have hc0 := hTr.cellFirst j hj
          have hf0 := hTr.thawed (514 + j)
          have hc3 := hT3.cellHaving j hj
          have hown := hT3.own j hj
          have hB3 : Below w.heap.size w (wr.setCell ⟨b, 514 + j, none⟩ (.int .u32 ((x : Int) * 2))) := hBr2.setCell (by show w.heap.size ≤ b; exact hbw) _
          obtain ⟨A, c, hA⟩ := own_slice hown
          rw [hA] at hc3
          have HA := Lib.hid hA
          clear hA
          have hj0 : (0 : Int) ≤ (j : Int) := by omega
          have hj1 : (j : Int) < 31 := by omega
          have hj2 : (1 : Int) ≤ (j : Int) := by omega
          have hcnt : Hf.cnt j = (Hf.hav j).length := rfl
          generalize hq : (Hf.hav j).length = q at hc3 hcnt
          have hq1 : (q : Int) ≤ 1073741824 := by omega
          clear hTr hown
          go_wp2
          go_loopw [4, 54] (fun y i' wr' => ∃ (i : Nat) (cd' : Nat → Nat), i ≤ q ∧ i' = .int .i64 (i : Int) ∧ y = .int .u32 ((Hf.fst j + i : Nat) : Int) ∧ Tb wr' b cd' (upd fs j (Hf.fst j)) hv Hf.hav ∧ (∀ s, s < 257 → Hf.len s ≤ m → cd' s = Hf.code s) ∧ (∀ k, k < i → cd' ((Hf.hav j).getD k 0) = Hf.code ((Hf.hav j).getD k 0)) ∧ Below w.heap.size w wr') (fun _ i _ => q - (intOf i).toNat)
          case atStart => exact ⟨0, cd, by omega, rfl, (by rw [Nat.add_zero, hfj]), hT3, HCD.out, (fun k hk => by omega), hB3⟩
          case round =>
            obtain ⟨i, cd', hi, rfl, rfl, hTi, hcd, hcode, hBi⟩ := hrel
            have HCD2 := Lib.hid hcd
            have HCO := Lib.hid hcode
            clear hcd hcode
            by_cases hlt2 : i < q
            · have hown := hTi.own j hj
              rw [HA.out, hq] at hown
              obtain ⟨p, u, rfl, hu, hcu⟩ := own_at hown i hlt2
              rw [u16s_at _ _ (by omega)] at hu
              injection hu with hu
              subst hu
              have hsl : (Hf.hav j).getD i 0 < 257 := Hf.hav_lt j hj _ (by rw [List.getD_eq_getElem?_getD, List.getElem?_eq_getElem (by omega)]; exact List.getElem_mem _)
              have hsa := Hf.sym_some_all j hj i (by omega)
              generalize hs : (Hf.hav j).getD i 0 = s at hsl hsa hcu
              have HS := Lib.hid hs
              clear hs
              have hs0 : (0 : Int) ≤ (s : Int) := by omega
              have hs1 : (s : Int) < 257 := by omega
              have hc0 := hTi.cellCode s hsl
              have hf0 := hTi.thawed (257 + s)
              have hT4 := hTi.setCode s (Hf.fst j + i) hsl
              have hB4 : Below w.heap.size w (wr.setCell ⟨b, 257 + s, none⟩ (.int .u32 ((Hf.fst j + i : Nat) : Int))) := hBi.setCell (by show w.heap.size ≤ b; exact hbw) _
              have hy1 : ((Hf.fst j + i : Nat) : Int) ≤ 1073741824 := by omega
              generalize hy : Hf.fst j + i = y at hT4 hB4 hy1 hsa ⊢
              clear hown hc3 hTi hBi hBr2
              go_wp2
              go_roundw
              case measure => simp [intOf]; omega
              case rel =>
                refine ⟨i + 1, upd cd' s y, by omega, by simp, congrArg (Value.int .u32) (by omega), hT4, fun s' h1 h2 => ?_, fun k hk => ?_, hB4⟩
                · rw [upd_ne _ _ (by intro e; subst e; have := hsa.1; omega)]; exact HCD2.out s' h1 h2
                · by_cases e : (Hf.hav j).getD k 0 = s
                  · rw [e, upd_same]; exact hsa.2.symm
                  · have hne : k ≠ i := by intro e'; subst e'; exact e HS.out
                    rw [upd_ne _ _ e]; exact HCO.out k (by omega)
            · obtain rfl : i = q := by omega
              have hcd5 : ∀ s, s < 257 → Hf.len s ≤ j → cd' s = Hf.code s := by
                intro s hs hl
                by_cases e : Hf.len s ≤ m
                · exact HCD2.out s hs e
                · have hm' : s ∈ Hf.hav j := by
                    rw [Hf.hav_eq j hj, List.mem_filter]
                    exact ⟨List.mem_range.2 hs, by simp; omega⟩
                  obtain ⟨k, hk, rfl⟩ := List.getElem_of_mem hm'
                  have := HCO.out k (by omega)
                  rw [List.getD_eq_getElem?_getD, List.getElem?_eq_getElem hk] at this
                  exact this
              have hfs5 : ∀ n, n ≤ j → upd fs j (Hf.fst j) n = Hf.fst n := by
                intro n hn
                by_cases e : n = j
                · subst e; exact upd_same _ _ _
                · rw [upd_ne _ _ e]; exact HFS.out n (by omega)
              have HC5 := Lib.hid hcd5
              have HF5 := Lib.hid hfs5
              clear hcd5 hfs5 hc3 hT3
              go_wp2
              go_roundw
              case measure => simp [intOf]; omega
              case rel => exact ⟨j, cd', upd fs j (Hf.fst j), by omega, congrArg (Value.int .i64) (by omega), congrArg (Value.int .u32) (by omega), hTi, HC5.out, HF5.out, hBi⟩
        · obtain rfl : m = 30 := by omega
          have hM : Made wr b := ⟨hv, hTr.congr (fun s hs => HCD.out s hs (Hf.len_bd s hs).2) (fun n hn => HFS.out n (by omega)) (fun _ _ => rfl)⟩
          clear hTr
          go_wp2
          go_ret
          exact ⟨b, rfl, hbw, hBr2, hM⟩
end Go.Proofs.Ytmjibpjnhehnnaa
