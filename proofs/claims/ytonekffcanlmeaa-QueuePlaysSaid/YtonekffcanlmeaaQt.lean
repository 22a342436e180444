/- Two queues know nothing of each other: the walk of QueueTwo. -/
import Derived.Test.YtonekffcanlmeaaQs
import Derived.Deep.DeepMust
import Derived.WalkLawsBesides
import Derived.Deep.RegionHeld3
import Derived.Deep.DrawnRows
namespace Go.Proofs.Ytonekffcanlmeaa
open Go.Conc Go.RowKit
attribute [local go_sem ↓] Go.wp_at_zero Go.wp_at_succ

/-- The pieces that were put into the second queue. -/
def cuts (a : Option Addr) (cap n : Nat) : List Value := (List.range n).map fun j => .slice a j cap
theorem cuts_length (a : Option Addr) (cap n : Nat) : (cuts a cap n).length = n := by simp [cuts]
theorem cuts_succ (a : Option Addr) (cap n : Nat) : cuts a cap n ++ [.slice a n cap] = cuts a cap (n + 1) := by simp [cuts, List.range_succ]
theorem cuts_all (a : Option Addr) (cap n : Nat) : ∀ u ∈ cuts a cap n, ∃ (a : Option Addr) (m cp : Nat), u = .slice a m cp := by
  intro u hu
  simp [cuts] at hu
  obtain ⟨j, _, rfl⟩ := hu
  exact ⟨_, _, _, rfl⟩
theorem cuts_at (a : Option Addr) (cap n j : Nat) (h : j < n) : (cuts a cap n)[j]? = some (.slice a j cap) := by simp [cuts, h]
theorem take_snoc_ints (zs : List Int) (k : Nat) (h : k < zs.length) : (zs.take k).map (Value.int .i64) ++ [.int .i64 zs[k]] = (zs.take (k + 1)).map (Value.int .i64) := by
  rw [List.take_add_one, List.getElem?_eq_getElem h, List.map_append]; rfl
theorem ints_all (zs : List Int) : ∀ u ∈ zs.map (Value.int .i64), ∃ n : Int, u = .int .i64 n := by
  intro u hu
  simp at hu
  obtain ⟨a, _, rfl⟩ := hu
  exact ⟨a, rfl⟩

theorem leni_as (T b c cap : Nat) (l : List Value) (n : Int) (hn : (l.length : Int) = n) (w : World) (hq : QAt w T b c cap l) :
    Calls Try.prog 17 #[.pointer (some ⟨b, 0, none⟩)] w fun e w' => e = .returned (.int .i64 n) ∧ w = w' := by subst hn; exact leni T b c cap l w hq
theorem lenl_as (T b c cap : Nat) (l : List Value) (n : Int) (hn : (l.length : Int) = n) (w : World) (hq : QAt w T b c cap l) :
    Calls Try.prog 27 #[.pointer (some ⟨b, 0, none⟩)] w fun e w' => e = .returned (.int .i64 n) ∧ w = w' := by subst hn; exact lenl T b c cap l w hq

theorem min_as (n k : Nat) (ts : Array TypeId) (t : TypeId) (w : World) (h : k = min n 65536) : (Builtin.min_ ts t #[.int .i64 (n : Int), .int .i64 65536]).run Try.prog w = .ok (.int .i64 (k : Int)) w := by
  subst h
  simp [Builtin.min_, Builtin.min2]
  split <;> omega

/-- What holds at each round. -/
structure Two (w0 : World) (a : Option Addr) (cap : Nat) (zs : List Int) (k : Nat) (wr : World) : Prop where
  qa : QAt wr 60 (w0.heap.size + 1) w0.heap.size 65536 ((zs.take k).map (Value.int .i64))
  qb : QAt wr 66 (w0.heap.size + 3) (w0.heap.size + 2) 3 (cuts a cap (min k 3))
  below : Below w0.heap.size w0 wr

set_option maxRecDepth 100000 in
set_option maxHeartbeats 1000000 in
theorem queueTwo_some (x : Addr) (len cap : Nat) (zs : List Int) (w : World) (hrow : RowOf w (some x) len (Value.int .i64) zs) (hlc : len ≤ cap) (_hcap : cap ≤ 9223372036854775807) :
    Calls Try.prog 5 #[.slice (some x) len cap] w fun e w' => e = .returned (.bool true) ∧ Below w.heap.size w w' := by
  go_enter Try.func5, Try.ntmps5
  go_wp2_with fail
  refine (newi_good 65536 (by omega) (by omega) _).mono ?_
  rintro e w1 ⟨rfl, hb1, hz1, hq1⟩
  go_wp2_with fail
  refine (newl_good 3 (by omega) (by omega) _).mono ?_
  rintro e w2 ⟨rfl, hb2, hz2, hq2⟩
  simp only [hz1] at hz2 hq2 ⊢
  have hT : Two w (some x) cap zs 0 w2 := ⟨hq1.only (Only.of_below (fun _ => False) hb2) id id, hq2, hb1.trans (hb2.mono (by omega))⟩
  clear hb1 hz1 hq1 hb2 hz2 hq2
  go_wp2
  go_loopw [7, 8] (fun n i wr => ∃ k : Nat, k ≤ len ∧ k ≤ 65536 ∧ i = .int .i64 k ∧ n = .int .i64 (min k 3 : Nat) ∧ Two w (some x) cap zs k wr) (fun _ i _ => len - (intOf i).toNat)
  case atStart => exact ⟨0, Nat.zero_le _, by omega, rfl, rfl, hT⟩
  case round =>
    clear hT
    obtain ⟨k, hk1, hk2, rfl, rfl, hT⟩ := hrel
    by_cases hlt : k < len ∧ k < 65536
    · obtain ⟨hl1, hl2⟩ := hlt
      obtain ⟨x', hx', hxb, hcell⟩ := hrow.2 k (by rw [hrow.1]; exact hl1)
      obtain rfl : x = x' := by injection hx'
      have hsn := take_snoc_ints zs k (by rw [hrow.1]; exact hl1)
      have hcw := (hT.below.cell (p := x.add k) (by rw [add_block]; exact hxb)).trans hcell
      generalize zs[k]'_ = v at hcw hsn
      have HR := Lib.hid hrow
      have HS := Lib.hid hsn
      clear hrow hx' hcell hsn hxb
      have hlen : (zs.take k).length = k := by have := HR.out.1; rw [List.length_take]; omega
      have hl3 : ((zs.take k).map (Value.int .i64)).length < 65536 := by rw [List.length_map, hlen]; exact hl2
      have HL := Lib.hid hlen
      clear hlen
      have hk0 : (0 : Int) ≤ (k : Int) := by omega
      have hkc : (k : Int) ≤ (cap : Int) := by omega
      have hkl : (k : Int) < (len : Int) := by omega
      have hk6 : (k : Int) < 65536 := by omega
      go_wp2_with fail
      refine (puti_yes _ _ _ _ _ _ _ hT.qa hl3).mono ?_
      rintro e w3 ⟨rfl, hqa, hoa⟩
      rw [HS.out] at hqa
      have hqb := hT.qb.only hoa (by simp) (by simp)
      have hB3 : Below w.heap.size w w3 := hT.below.trans (hoa.below (fun k hk => by omega) hT.below.size)
      clear hT hoa hl3 hcw
      by_cases h3 : k < 3
      · rw [show min k 3 = k from by omega] at hqb ⊢
        go_wp2_with fail
        refine (putl_yes _ _ _ _ _ _ _ hqb (by rw [cuts_length]; exact h3)).mono ?_
        rintro e w4 ⟨rfl, hqb4, hob⟩
        rw [cuts_succ] at hqb4
        have hqa4 := hqa.only hob (by simp) (by simp)
        have hB4 : Below w.heap.size w w4 := hB3.trans (hob.below (fun k hk => by omega) hB3.size)
        clear hqa hqb hob hB3
        go_wp2_with fail
        refine (leni_as _ _ _ _ _ (↑k + 1) (by rw [List.length_map, List.length_take, HR.out.1]; omega) _ hqa4).mono ?_
        rintro e w' ⟨rfl, rfl⟩
        go_wp2_with fail
        refine (lenl_as _ _ _ _ _ (↑k + 1) (by rw [cuts_length]; omega) _ hqb4).mono ?_
        rintro e w' ⟨rfl, rfl⟩
        obtain ⟨m, hm⟩ : ∃ m : Int, (k : Int) + 1 = m := ⟨_, rfl⟩
        rw [hm]
        have h4 : m ≤ 3 := by omega
        have H3 := Lib.hid h3
        have HM := Lib.hid hm
        have h5 : decide ((3 : Int) < m) = false := by simp; omega
        clear h3 hm h4
        go_wp2
        go_roundw
        case rel => exact ⟨k + 1, by omega, by omega, by go_num, by rw [← HM.out, show min (k + 1) 3 = k + 1 from by have := H3.out; omega]; go_num, hqa4, by rw [show min (k + 1) 3 = k + 1 from by have := H3.out; omega]; exact hqb4, hB4⟩
        case measure => simp [intOf]; omega
      · rw [show ((min k 3 : Nat) : Int) = 3 from by omega]
        rw [show min k 3 = 3 from by omega] at hqb
        go_wp2_with fail
        refine (putl_no _ _ _ _ _ _ _ hqb (by rw [cuts_length]; exact Nat.le_refl _)).mono ?_
        rintro e w4 ⟨rfl, hqb4, hob⟩
        have hqa4 := hqa.only hob (by simp) (by simp)
        have hB4 : Below w.heap.size w w4 := hB3.trans (hob.below (fun k hk => by omega) hB3.size)
        clear hqa hqb hob hB3
        go_wp2_with fail
        refine (leni_as _ _ _ _ _ (↑k + 1) (by rw [List.length_map, List.length_take, HR.out.1]; omega) _ hqa4).mono ?_
        rintro e w' ⟨rfl, rfl⟩
        go_wp2_with fail
        refine (lenl_as _ _ _ _ _ 3 (by rw [cuts_length]; rfl) _ hqb4).mono ?_
        rintro e w' ⟨rfl, rfl⟩
        go_wp2
        go_roundw
        case rel => exact ⟨k + 1, by omega, by omega, by go_num, by rw [show min (k + 1) 3 = 3 from by omega]; go_num, hqa4, by rw [show min (k + 1) 3 = 3 from by omega]; exact hqb4, hB4⟩
        case measure => simp [intOf]; omega
    · have hkM : Hid (k = min len 65536) := by show _ = _; omega
      have hcase : k = len ∨ (k < len ∧ ¬ k < 65536) := by omega
      clear hlt
      have HR := Lib.hid hrow
      clear hrow
      have hkl : k ≤ len := hk1
      have hk6 : k ≤ 65536 := hk2
      have hkz : (zs.take k).length = k := by have := HR.out.1; rw [List.length_take]; omega
      have HZ := Lib.hid hkz
      clear hkz
      obtain ⟨n3, hn3⟩ : ∃ n3, min k 3 = n3 := ⟨_, rfl⟩
      have hqb0 := hT.qb
      have hqa0 := hT.qa
      have hB0 := hT.below
      rw [hn3] at hqb0 ⊢
      have h33 : n3 ≤ 3 := by omega
      have HN := Lib.hid hn3
      clear hn3 hT
      rcases hcase with rfl | ⟨h5, h6⟩
      · have hmin : ∀ (ts : Array TypeId) (t : TypeId) (w : World), (Builtin.min_ ts t #[.int .i64 (k : Int), .int .i64 65536]).run Try.prog w = .ok (.int .i64 (k : Int)) w := fun ts t w => min_as k k ts t w (by omega)
        have hk0 : (0 : Int) ≤ (k : Int) := by omega
        have hkc : (k : Int) ≤ (cap : Int) := by omega
        go_wp2_with fail
        refine (drainl _ _ _ _ _ _ (by decide) hqb0 (by rw [cuts_length]; omega) (cuts_all _ _ _)).mono ?_
        rintro e w3 ⟨v, rfl, hown, hqb, hob⟩
        rw [cuts_length] at hown
        obtain ⟨A, c, rfl⟩ := own_slice hown
        have hqa := hqa0.only hob (by simp) (by simp)
        have hB3 : Below w.heap.size w w3 := hB0.trans (hob.below (fun k hk => by omega) hB0.size)
        clear hob hqb hqb0 hqa0 hB0
        go_wp2
        go_loop [10] (fun i => ∃ j : Nat, j ≤ n3 ∧ i = .int .i64 j) (fun i => n3 - (intOf i).toNat)
        case atStart => exact ⟨0, Nat.zero_le _, rfl⟩
        case round =>
          obtain ⟨j, hj, rfl⟩ := hrel
          by_cases hlt : j < n3
          · obtain ⟨y, u, rfl, hu, hy⟩ := own_at hown j hlt
            rw [cuts_at _ _ _ _ hlt] at hu
            obtain rfl : Value.slice (some x) j cap = u := by injection hu
            clear hu
            go_wp2
            go_round
            case rel => exact ⟨j + 1, by omega, by go_num⟩
            case measure => simp [intOf]; omega
          · obtain rfl : j = n3 := by omega
            go_wp2
            go_region_held3 (fun _ => True) (first | exact True.intro) (first | (go_at_call 9; refine (awake_true _).mono ?_; rintro e w4 ⟨rfl, hb4⟩; have hqa4 := QAt.only (w := w3.drew) hqa (Only.of_below (fun _ => False) hb4) id id; have hB4 : Below w.heap.size w w4 := hB3.drew.trans (hb4.mono hB3.size)) | (go_at_call 15; refine (draini _ _ _ _ _ _ (by decide) hqa4 (by rw [List.length_map, HZ.out]; exact hk6) (ints_all _)).mono ?_; rintro e w5 ⟨v, rfl, hown5, hq5, ho5⟩; rw [List.length_map, HZ.out] at hown5; obtain ⟨A5, c5, rfl⟩ := own_slice hown5; have hB5 : Below w.heap.size w w5 := hB4.trans (ho5.below (fun k hk => by omega) hB4.size)) | (go_at_call 14; refine (same_ints _ _ _ _ _ (zs.take k) _ (by unfold maxLen; omega) (RowAt.of_own hown5) (RowOf.below HR.out hB5 k hkl)).mono ?_; rintro e w6 ⟨rfl, m, rfl⟩; have hB6 := below_drewN' hB5 m))
            all_goals (go_wp2; go_ret; exact ⟨rfl, by assumption⟩)
      · have h7 : (k : Int) < (len : Int) := by omega
        have h8 : ¬ (k : Int) < 65536 := by omega
        have hmin : ∀ (ts : Array TypeId) (t : TypeId) (w : World), (Builtin.min_ ts t #[.int .i64 (len : Int), .int .i64 65536]).run Try.prog w = .ok (.int .i64 (k : Int)) w := fun ts t w => min_as len k ts t w (by omega)
        have hk0 : (0 : Int) ≤ (k : Int) := by omega
        have hkc : (k : Int) ≤ (cap : Int) := by omega
        clear h5 h6
        go_wp2_with fail
        clear h7 h8
        refine (drainl _ _ _ _ _ _ (by decide) hqb0 (by rw [cuts_length]; omega) (cuts_all _ _ _)).mono ?_
        rintro e w3 ⟨v, rfl, hown, hqb, hob⟩
        rw [cuts_length] at hown
        obtain ⟨A, c, rfl⟩ := own_slice hown
        have hqa := hqa0.only hob (by simp) (by simp)
        have hB3 : Below w.heap.size w w3 := hB0.trans (hob.below (fun k hk => by omega) hB0.size)
        clear hob hqb hqb0 hqa0 hB0
        go_wp2
        go_loop [10] (fun i => ∃ j : Nat, j ≤ n3 ∧ i = .int .i64 j) (fun i => n3 - (intOf i).toNat)
        case atStart => exact ⟨0, Nat.zero_le _, rfl⟩
        case round =>
          obtain ⟨j, hj, rfl⟩ := hrel
          by_cases hlt : j < n3
          · obtain ⟨y, u, rfl, hu, hy⟩ := own_at hown j hlt
            rw [cuts_at _ _ _ _ hlt] at hu
            obtain rfl : Value.slice (some x) j cap = u := by injection hu
            clear hu
            go_wp2
            go_round
            case rel => exact ⟨j + 1, by omega, by go_num⟩
            case measure => simp [intOf]; omega
          · obtain rfl : j = n3 := by omega
            go_wp2
            go_region_held3 (fun _ => True) (first | exact True.intro) (first | (go_at_call 9; refine (awake_true _).mono ?_; rintro e w4 ⟨rfl, hb4⟩; have hqa4 := QAt.only (w := w3.drew) hqa (Only.of_below (fun _ => False) hb4) id id; have hB4 : Below w.heap.size w w4 := hB3.drew.trans (hb4.mono hB3.size)) | (go_at_call 15; refine (draini _ _ _ _ _ _ (by decide) hqa4 (by rw [List.length_map, HZ.out]; exact hk6) (ints_all _)).mono ?_; rintro e w5 ⟨v, rfl, hown5, hq5, ho5⟩; rw [List.length_map, HZ.out] at hown5; obtain ⟨A5, c5, rfl⟩ := own_slice hown5; have hB5 : Below w.heap.size w w5 := hB4.trans (ho5.below (fun k hk => by omega) hB4.size)) | (go_at_call 14; refine (same_ints _ _ _ _ _ (zs.take k) _ (by unfold maxLen; omega) (RowAt.of_own hown5) (RowOf.below HR.out hB5 k hkl)).mono ?_; rintro e w6 ⟨rfl, m, rfl⟩; have hB6 := below_drewN' hB5 m))
            all_goals (go_wp2; go_ret; exact ⟨rfl, by assumption⟩)

set_option maxRecDepth 100000 in
set_option maxHeartbeats 1000000 in
theorem queueTwo_nil (w : World) :
    Calls Try.prog 5 #[.slice none 0 0] w fun e w' => e = .returned (.bool true) ∧ Below w.heap.size w w' := by
  have hmin : ∀ (ts : Array TypeId) (t : TypeId) (w : World), (Builtin.min_ ts t #[.int .i64 0, .int .i64 65536]).run Try.prog w = .ok (.int .i64 0) w := fun ts t w => min_as 0 0 ts t w (by omega)
  go_enter Try.func5, Try.ntmps5
  go_wp2_with fail
  refine (newi_good 65536 (by omega) (by omega) _).mono ?_
  rintro e w1 ⟨rfl, hb1, hz1, hq1⟩
  go_wp2_with fail
  refine (newl_good 3 (by omega) (by omega) _).mono ?_
  rintro e w2 ⟨rfl, hb2, hz2, hq2⟩
  simp only [hz1] at hz2 hq2 ⊢
  have hqa0 := hq1.only (Only.of_below (fun _ => False) hb2) id id
  have hB2 : Below w.heap.size w w2 := hb1.trans (hb2.mono (by omega))
  clear hb1 hz1 hq1 hb2 hz2
  go_wp2
  go_loopw [7, 8] (fun n i wr => i = .int .i64 0 ∧ n = .int .i64 0 ∧ wr = w2) (fun _ _ _ => 0)
  case atStart => exact ⟨rfl, rfl, rfl⟩
  case round =>
    obtain ⟨rfl, rfl, rfl⟩ := hrel
    go_wp2_with fail
    refine (drainl _ _ _ _ _ _ (by decide) hq2 (by simp) (by simp)).mono ?_
    rintro e w3 ⟨v, rfl, hown, hqb, hob⟩
    rw [List.length_nil] at hown
    obtain ⟨A, c, rfl⟩ := own_slice hown
    have hqa := hqa0.only hob (by simp) (by simp)
    have hB3 : Below w.heap.size w w3 := hB2.trans (hob.below (fun k hk => by omega) hB2.size)
    clear hob hqb hq2 hqa0 hB2
    go_wp2
    go_loop [10] (fun i => i = .int .i64 0) (fun _ => 0)
    case atStart => exact rfl
    case round =>
      obtain rfl := hrel
      go_wp2
      go_region_held3 (fun _ => True) (first | exact True.intro) (first | (go_at_call 9; refine (awake_true _).mono ?_; rintro e w4 ⟨rfl, hb4⟩; have hqa4 := QAt.only (w := w3.drew) hqa (Only.of_below (fun _ => False) hb4) id id; have hB4 : Below w.heap.size w w4 := hB3.drew.trans (hb4.mono hB3.size)) | (go_at_call 15; refine (draini _ _ _ _ _ _ (by decide) hqa4 (by simp) (by simp)).mono ?_; rintro e w5 ⟨v, rfl, hown5, hq5, ho5⟩; rw [List.length_nil] at hown5; obtain ⟨A5, c5, rfl⟩ := own_slice hown5; have hB5 : Below w.heap.size w w5 := hB4.trans (ho5.below (fun k hk => by omega) hB4.size)) | (go_at_call 14; refine (same_ints _ _ _ _ _ [] _ (by unfold maxLen; omega) (RowAt.of_own hown5) ⟨rfl, fun i h => absurd h (by simp)⟩).mono ?_; rintro e w6 ⟨rfl, m, rfl⟩; have hB6 := below_drewN' hB5 m))
      all_goals (go_wp2; go_ret; exact ⟨rfl, by assumption⟩)

theorem queueTwo_walk (w : World) (a : Option Addr) (len cap : Nat) (zs : List Int) (h : RowOf w a len (Value.int .i64) zs) (hy : (∀ n ∈ zs, (Lit.int .i64 n).wf = true) ∧ len ≤ maxLen ∧ len * 8 ≤ 140737488351232 ∧ len ≤ cap ∧ cap ≤ maxLen ∧ (a = none → cap = 0)) :
    Calls Try.prog 5 #[.slice a len cap] w fun e w' => e = .returned (.bool true) ∧ Below w.heap.size w w' := by
  cases a with
  | none =>
    obtain rfl : cap = 0 := hy.2.2.2.2.2 rfl
    obtain rfl : len = 0 := by have := hy.2.2.2.1; omega
    exact queueTwo_nil w
  | some x => exact queueTwo_some x len cap zs w h hy.2.2.2.1 (by have := hy.2.2.2.2.1; unfold maxLen at this; omega)
end Go.Proofs.Ytonekffcanlmeaa
