/- The walk of QueueOrder. -/
import Derived.Test.YtonekffcanlmeaaQo
import Derived.Deep.DeepMust
namespace Go.Proofs.Ytonekffcanlmeaa
open Go.Conc Go.RowKit

set_option maxRecDepth 100000 in
theorem queueOrder_bad (size : Int) (hs : size < 1 ∨ 65536 < size) (a : Option Addr) (len cap : Nat) (every : Int) (w : World) :
    Calls Try.prog 4 #[.int .i64 size, .slice a len cap, .int .i64 every] w fun e w' => e = .returned (.bool true) ∧ Below w.heap.size w w' := by
  by_cases h1 : size < 1
  · go_enter Try.func4, Try.ntmps4
    go_wp2_with fail
    refine (news_bad _ hs _).mono ?_
    rintro e w1 ⟨rfl, rfl⟩
    go_wp2_with fail
    refine (awake_true _).mono ?_
    rintro e w1 ⟨rfl, hb⟩
    go_wp2
    go_ret
    exact ⟨rfl, hb⟩
  · have h2 : 65536 < size := by omega
    go_enter Try.func4, Try.ntmps4
    go_wp2_with fail
    refine (news_bad _ hs _).mono ?_
    rintro e w1 ⟨rfl, rfl⟩
    go_wp2_with fail
    refine (awake_true _).mono ?_
    rintro e w1 ⟨rfl, hb⟩
    go_wp2
    go_ret
    exact ⟨rfl, hb⟩

set_option maxRecDepth 100000 in
theorem queueOrder_good (size : Nat) (hs1 : 1 ≤ size) (hs2 : size ≤ 65536) (a : Option Addr) (len cap : Nat) (ss : List ByteArray) (every : Int) (w : World) (hlen : len * 16 ≤ 140737488351232)
    (hc : ∀ i, i < len → ∃ x : Addr, a = some x ∧ x.block < w.heap.size ∧ w.cell? (x.add i) = some (.string (ss.getD i ByteArray.empty))) :
    Calls Try.prog 4 #[.int .i64 (size : Int), .slice a len cap, .int .i64 every] w fun e w' => e = .returned (.bool true) ∧ Below w.heap.size w w' := by
  obtain ⟨i0, hi, hz0, hz1, hz2⟩ := info_parts info_s
  go_enter Try.func4, Try.ntmps4
  go_wp2_with fail
  refine (news_good size hs1 hs2 _).mono ?_
  rintro e w1 ⟨rfl, hb1, hz, hq1⟩
  go_wp2
  go_loopw [9, 10, 11] (fun vi vo i wr => ∃ (k : Nat) (ins outs waits : List ByteArray), k ≤ len ∧ i = .int .i64 k ∧ ins.length ≤ k ∧ Ord w size wr vi vo ins outs waits) (fun _ _ i _ => len - (intOf i).toNat)
  case atStart =>
    exact ⟨0, [], [], [], Nat.zero_le _, rfl, Nat.le_refl _, hq1, World.ownsRow_nil _ _ _ _, World.ownsRow_nil _ _ _ _, .inl rfl, hb1, rfl, Nat.zero_le _⟩
  case round =>
    obtain ⟨k, ins, outs, waits, hk, rfl, hki, hO⟩ := hrel
    by_cases hlt : k < len
    · obtain ⟨x, rfl, hxb, hcell⟩ := hc k hlt
      have hcw := (hO.below.cell (p := x.add k) (by rw [show (x.add k).block = x.block from by unfold Addr.add; split <;> rfl]; exact hxb)).trans hcell
      have hc' : Hid (∀ i, i < len → ∃ y : Addr, some x = some y ∧ y.block < w.heap.size ∧ w.cell? (y.add i) = some (.string (ss.getD i ByteArray.empty))) := hc
      clear hc hcell
      generalize ss.getD k ByteArray.empty = s at hcw
      have hkc : (0 : Int) ≤ (k : Int) := by omega
      by_cases hroom : waits.length < size
      · obtain ⟨y, ys, hyw⟩ : ∃ y ys, waits ++ [s] = y :: ys := by cases waits <;> simp
        have HY : Hid (waits ++ [s] = y :: ys) := hyw
        clear hyw
        go_wp2_with fail
        refine (puts_yes _ _ _ _ _ _ _ hO.hq (by rw [strs_length]; exact hroom)).mono ?_
        rintro e w2 ⟨rfl, hq2, ho2⟩
        have hcw2 : w2.cell? (x.add k) = some (.string s) := ho2.cell' hcw (by rw [add_block]; omega)
        have hin2 := own_only hO.hin hO.hq ho2
        have hz2' : w.heap.size + 2 ≤ w2.heap.size := by have := hO.hq.ltb; have := ho2.size; omega
        go_wp2_with (at_builtin; go_must (refine wpList_push (w.heap.size + 2) (by rfl) _ _ 43 9 _ 16 (by rfl) Try.underlying43 info_s rfl u9 ins.length (strs ins) (.string s) (by rfl) (by rfl) rfl hin2 hz2' (by unfold maxLen; omega) (by omega) ?_; intro v3 w3 hown3 hg3 hat3))
        all_goals
          have hO2 := hO.put_yes s hroom hq2 ho2 hg3 hown3 hat3
          clear hown3 hg3 hat3 hin2 hq2 ho2 hcw2 hz2' hcw hO
          have hyw := HY.out
          first
          | (go_roundw; (case rel => exact ⟨k + 1, (ins ++ [s]), outs, _, by omega, by go_num, by first | omega | (simp; omega), hO2⟩); (case measure => simp [intOf]; omega))
          | (rw [hyw] at hO2
             refine (takes _ _ _ _ _ _ hO2.hq).mono ?_
             rintro e w4 ⟨rfl, hq4, ho4⟩
             have hout4 := own_only hO2.hout hO2.hq ho4
             have hz4 : w.heap.size + 2 ≤ w4.heap.size := by have := hO2.hq.ltb; have := ho4.size; omega
             have hlo : outs.length ≤ (ins ++ [s]).length := by rw [hO2.eq, List.length_append]; omega
             have hlo' : outs.length ≤ k + 1 := by first | omega | (simp at hlo; omega)
             simp only [strs, List.map_cons, List.headD_cons, List.isEmpty_cons, Bool.not_false, List.tail_cons] at hq4 ⊢
             go_wp2_with (at_builtin; go_must (refine wpList_push (w.heap.size + 2) (by rfl) _ _ 43 9 _ 16 (by rfl) Try.underlying43 info_s rfl u10 outs.length (strs outs) (.string y) (by rfl) (by rfl) rfl hout4 hz4 (by unfold maxLen; omega) (by omega) ?_; intro v5 w5 hown5 hg5 hat5))
             have hO3 := hO2.take hq4 ho4 hg5 hown5 hat5
             clear hown5 hg5 hat5 hout4 hq4 ho4 hz4 hO2
             go_wp2
             go_roundw
             case rel => exact ⟨k + 1, (ins ++ [s]), outs ++ [y], ys, by omega, by go_num, by first | omega | (simp; omega), hO3⟩
             case measure => simp [intOf]; omega)
      · obtain ⟨y, ys, hyw⟩ : ∃ y ys, waits = y :: ys := by
          cases waits
          · simp at hroom; omega
          · exact ⟨_, _, rfl⟩
        have HY : Hid (waits = y :: ys) := hyw
        clear hyw
        go_wp2_with fail
        refine (puts_no _ _ _ _ _ _ _ hO.hq (by rw [strs_length]; omega)).mono ?_
        rintro e w3 ⟨rfl, hq2, ho2⟩
        have hO2 := hO.put_no hq2 ho2
        clear hq2 ho2 hcw hO
        go_wp2_with fail
        all_goals
          have hyw := HY.out
          first
          | (go_roundw; (case rel => exact ⟨k + 1, ins, outs, _, by omega, by go_num, by first | omega | (simp; omega), hO2⟩); (case measure => simp [intOf]; omega))
          | (rw [hyw] at hO2
             refine (takes _ _ _ _ _ _ hO2.hq).mono ?_
             rintro e w4 ⟨rfl, hq4, ho4⟩
             have hout4 := own_only hO2.hout hO2.hq ho4
             have hz4 : w.heap.size + 2 ≤ w4.heap.size := by have := hO2.hq.ltb; have := ho4.size; omega
             have hlo : outs.length ≤ ins.length := by rw [hO2.eq, List.length_append]; omega
             have hlo' : outs.length ≤ k + 1 := by first | omega | (simp at hlo; omega)
             simp only [strs, List.map_cons, List.headD_cons, List.isEmpty_cons, Bool.not_false, List.tail_cons] at hq4 ⊢
             go_wp2_with (at_builtin; go_must (refine wpList_push (w.heap.size + 2) (by rfl) _ _ 43 9 _ 16 (by rfl) Try.underlying43 info_s rfl u10 outs.length (strs outs) (.string y) (by rfl) (by rfl) rfl hout4 hz4 (by unfold maxLen; omega) (by omega) ?_; intro v5 w5 hown5 hg5 hat5))
             have hO3 := hO2.take hq4 ho4 hg5 hown5 hat5
             clear hown5 hg5 hat5 hout4 hq4 ho4 hz4 hO2
             go_wp2
             go_roundw
             case rel => exact ⟨k + 1, ins, outs ++ [y], ys, by omega, by go_num, by first | omega | (simp; omega), hO3⟩
             case measure => simp [intOf]; omega)
    · obtain rfl : k = len := by omega
      clear hc
      have hwl : waits.length ≤ 65536 := by have := hO.fits; omega
      have hil : ins.length ≤ 8796093022207 := by omega
      have hEQ : Hid (ins = outs ++ waits) := hO.eq
      have hsum : Hid (outs.length + waits.length = ins.length) := by have := congrArg List.length hO.eq; rw [List.length_append] at this; exact this.symm
      have hlo : outs.length + waits.length ≤ 8796093022207 := by have := congrArg List.length hO.eq; rw [List.length_append] at this; omega
      go_wp2_with fail
      refine (drains _ _ _ _ _ _ (by decide) hO.hq (by rw [strs_length]; exact hwl) (strs_all _)).mono ?_
      rintro e w2 ⟨v, rfl, hown, hq2, ho2⟩
      rw [strs_length] at hown
      obtain ⟨A2, c2, rfl⟩ := own_slice hO.hin
      have hin2 := own_only hO.hin hO.hq ho2
      have hout2 := own_only hO.hout hO.hq ho2
      have hne := hO.hne
      have hB2 : Below w.heap.size w w2 := hO.below.trans (ho2.below (fun k hk => by omega) (by have := hO.below.size; omega))
      have hz2' : w.heap.size + 2 ≤ w2.heap.size := by have := hO.hq.ltb; have := ho2.size; omega
      go_wp2_with (at_builtin; go_must (refine wpList_push_row (w.heap.size + 2) (by rfl) _ _ 43 9 _ 16 (by rfl) Try.underlying43 info_s rfl u10 outs.length (strs outs) (by rfl) hout2 v waits.length _ (strs waits) (by rfl) hown (fun y hy => by obtain ⟨n, rfl⟩ := strs_all _ y hy; rfl) hz2' (by unfold maxLen; omega) (by omega) ?_; intro v3 w3 hown3 hg3 hat3; rw [← strs_append, ← hEQ.out, hsum.out] at hown3; obtain ⟨A3, c3, rfl⟩ := own_slice hown3; have hq3 := hq2.grow_row hg3 (fun k hk => by have := own_some hout2 hk; omega); have hin3 := hin2.kept hg3 hne; have hB3 := hB2.grown hg3 (by omega) (fun k hk => by have := own_some hout2 hk; omega); clear hg3 hat3 hq2 hin2 hout2 hown ho2 hO hB2))
      refine (lens _ _ _ _ _ _ hq3).mono ?_
      rintro e w' ⟨rfl, rfl⟩
      simp only [List.length_nil, Int.ofNat_zero]
      go_wp2_with fail
      refine (rooms _ _ _ _ _ _ hq3 (by simp) hs2).mono ?_
      rintro e w' ⟨rfl, n, rfl⟩
      simp only [List.length_nil, Int.ofNat_zero, Int.sub_zero]
      have hin4 := own_drewN hin3 n
      have hown4 := own_drewN hown3 n
      have hB4 := below_drewN' hB3 n
      clear hin3 hown3 hB3 hq3
      generalize w3.drewN n = w4 at hin4 hown4 hB4 ⊢
      go_wp2
      go_loopw [14] (fun i wr' => ∃ (j m : Nat), j ≤ ins.length ∧ i = .int .i64 j ∧ wr' = w4.drewN m) (fun i _ => ins.length - (intOf i).toNat)
      case atStart => exact ⟨0, 0, Nat.zero_le _, rfl, rfl⟩
      case round =>
        obtain ⟨j, m, hj, rfl, rfl⟩ := hrel
        by_cases hlt : j < ins.length
        · obtain ⟨x, u, rfl, hu, hx⟩ := own_at hin4 j hlt
          obtain ⟨y, u', rfl, hu', hy⟩ := own_at hown4 j hlt
          obtain rfl : u = u' := by rw [hu] at hu'; injection hu'
          obtain ⟨t, rfl⟩ := strs_all ins u (List.mem_of_getElem? hu)
          clear hu hu'
          have hjc : (0 : Int) ≤ (j : Int) := by omega
          have hjl : (j : Int) < (ins.length : Int) := by omega
          go_wp2
          go_quiet (fail)
          go_wp2
          go_roundw
          case rel => exact ⟨j + 1, _, by omega, by go_num, rfl⟩
          case measure => simp [intOf]; omega
        · obtain rfl : j = ins.length := by omega
          go_wp2_with fail
          refine (awake_true _).mono ?_
          rintro e w5 ⟨rfl, hb5⟩
          go_wp2
          go_ret
          exact ⟨rfl, (below_drewN' hB4 m).trans (hb5.mono (below_drewN' hB4 m).size)⟩

theorem queueOrder_walk (w : World) (size : Int) (_h0 : (Lit.int .i64 size).wf = true) (a : Option Addr) (len cap : Nat) (ss : List ByteArray) (h : RowOf w a len Value.string ss) (hy : (∀ s ∈ ss, s.size ≤ maxLen) ∧ len ≤ maxLen ∧ len * 16 ≤ 140737488351232) (every : Int) (_h2 : (Lit.int .i64 every).wf = true) :
    Calls Try.prog 4 #[.int .i64 size, .slice a len cap, .int .i64 every] w fun e w' => e = .returned (.bool true) ∧ Below w.heap.size w w' := by
  by_cases hs : size < 1 ∨ 65536 < size
  · exact queueOrder_bad size hs a len cap every w
  · obtain ⟨n, rfl⟩ := Int.eq_ofNat_of_zero_le (show 0 ≤ size by omega)
    refine queueOrder_good n (by omega) (by omega) a len cap ss every w hy.2.2 fun i hi => ?_
    obtain ⟨x, hx, hb, hc⟩ := h.2 i (by rw [h.1]; exact hi)
    refine ⟨x, hx, hb, hc.trans ?_⟩
    simp [List.getD_eq_getElem?_getD, List.getElem?_eq_getElem (show i < ss.length by rw [h.1]; exact hi)]
end Go.Proofs.Ytonekffcanlmeaa
