/- The reference's all, At, Find, walked. -/
import Derived.Test.YtjdobemljghkbaaTv
namespace Go.Proofs.Ytjdobemljghkbaa
open Go.RowKit
attribute [local go_sem ↓] Go.wp_at_zero Go.wp_at_succ

def AllPost (w : World) (l : List Tk.Fd) (e : Ending) (w' : World) : Prop := ∃ A c, e = .returned (.slice A (61 + l.length) c) ∧ w'.ownsRow w.heap.size 30 2 (.slice A (61 + l.length) c) (61 + l.length) (fcells (Tk.all l)) ∧ Below w.heap.size w w'
theorem grown_undrew {w w' : World} {row : Option Nat} (h : w.drew.grownBy w' row) : w.grownBy w' row := ⟨h.os, h.tape, h.output, h.size, h.block⟩
set_option maxRecDepth 100000 in
set_option maxHeartbeats 1000000 in
theorem rall_any (w : World) (bx m : Nat) (g : Option Nat) (l : List Tk.Fd) (h : RTab w bx g m l) (hl : l.length ≤ 3000) :
    Calls Try.prog 41 #[.pointer (some ⟨bx, 0, none⟩)] w (AllPost w l) := by
  obtain ⟨v, hv, hb, hr⟩ := h
  obtain ⟨A, c, rfl⟩ := own_slice hr
  have hc1 : w.cell? ⟨bx, 1, none⟩ = some (.slice A l.length c) := cell_of_blk hb 1 _ rfl
  have HB := Lib.hid hb
  clear hb hv
  go_enter Try.func41, Try.ntmps41
  go_upto_region 1 with fail
  go_region_law (first | (go_simp; go_at_call 47; refine (rstatic_any _).mono ?_; rintro e w2 ⟨A2, c2, rfl, hown2d, hb2d⟩; have hb2 : Below w.heap.size w w2 := below_undrew hb2d; have hown2 : w2.ownsRow w.heap.size 30 2 (.slice A2 61 c2) 61 (fcells Tk.statics) := hown2d; have hr2 := own_only hr (Only.of_below (fun _ => False) hb2) (fun _ _ h => h); have hc2 : w2.cell? ⟨bx, 1, none⟩ = some (.slice A l.length c) := cell_of_blk ((hb2.block bx (heap_lt HB.out)).trans HB.out) 1 _ rfl) | (refine if_pos_wp (by rfl) ?_; go_must (refine wp_fields w.heap.size (bx + 1) _ _ (by rfl) (.slice A2 61 c2) (.slice A l.length c) 61 l.length Tk.statics l (by rfl) (by rfl) (by exact hown2) (by exact hr2) (by exact hb2.size) (by omega) ?_); intro v3 w3 hown3 hg3d hat3; obtain ⟨A3, c3, rfl⟩ := own_slice hown3; have hB3 : Below w.heap.size w w3 := hb2.grown (w' := w3) (row := (Value.slice A2 61 c2).ownBlock) ⟨hg3d.os, hg3d.tape, hg3d.output, hg3d.size, hg3d.block⟩ hb2.size (fun k hk => (hown2.lt k hk).1)))
  all_goals
    have hown3' : w3.ownsRow w.heap.size 30 2 (.slice A3 (61 + l.length) c3) (61 + l.length) (fcells (Tk.all l)) := hown3
    clear hown3 hc1 hc2 hr hr2
    go_wp2
    refine bodyPost_ret (v := .slice A3 (61 + l.length) c3) ?_ rfl ⟨A3, c3, rfl, hown3', hB3⟩
    simp [results, Try.results41, go_sem]
set_option maxRecDepth 100000 in
set_option maxHeartbeats 1000000 in
theorem rat_any (w : World) (bx m : Nat) (g : Option Nat) (l : List Tk.Fd) (i : Int) (f : Tk.Fd) (is : Bool) (h : RTab w bx g m l) (ha : Tk.at_ (Tk.all l) i = (f, is)) (hl : l.length ≤ 3000) :
    Calls Try.prog 11 #[.pointer (some ⟨bx, 0, none⟩), .int .i64 i] w fun e w' => e = .returned (.tuple #[.agg #[.string f.1, .string f.2], .bool is]) ∧ Below w.heap.size w w' := by
  have hB : Below w.heap.size w (w.alloc (.cells #[.string ⟨#[]⟩, .string ⟨#[]⟩] 30)) := (Below.refl _ _).alloc (Nat.le_refl _) _
  have h1 := h.below hB
  have hfz := heap_alloc_new w (.cells #[.string ⟨#[]⟩, .string ⟨#[]⟩] 30)
  have hal := Tk.all_length l
  go_enter Try.func11, Try.ntmps11
  go_upto_region 1 with fail
  generalize w.alloc (.cells #[.string ⟨#[]⟩, .string ⟨#[]⟩] 30) = w1 at *
  generalize hBB : w.heap.size = B at *
  have HBB := Lib.hid hBB
  have HFZ := Lib.hid hfz
  clear hBB hfz h
  go_wp2_with fail
  refine (rall_any w1 bx m g l h1 hl).mono ?_
  rintro e w2 ⟨A, c, rfl, hown, hb2⟩
  have hfz2 : w2.heap[B]? = _ := (hb2.block B (heap_lt HFZ.out)).trans HFZ.out
  have hB2 : Below B w w2 := hB.trans (hb2.mono (Nat.le_of_lt (heap_lt HFZ.out)))
  have hb0 : w2.cell? ⟨B, 0, none⟩ = some (.string ⟨#[]⟩) := cell_of_blk hfz2 0 _ rfl
  have hb1 : w2.cell? ⟨B, 1, none⟩ = some (.string ⟨#[]⟩) := cell_of_blk hfz2 1 _ rfl
  have hz0 : w2.frozen? ⟨B, 0, none⟩ = false := frozen_of_row w2 B 0 _ _ hfz2
  have hz1 : w2.frozen? ⟨B, 1, none⟩ = false := frozen_of_row w2 B 1 _ _ hfz2
  clear hfz2 h1 hb2 hB
  generalize hn : 61 + l.length = n at *
  have hn4 : n ≤ 4000 := by omega
  generalize Tk.all l = al at *
  clear hn
  by_cases hi1 : i < 1
  · rw [at_low (.inl hi1)] at ha
    injection ha with ha1 ha2
    subst ha1; subst ha2
    clear hown hal
    go_wp2
    exact bodyPost_ret (v := .tuple #[.agg #[.string ⟨#[]⟩, .string ⟨#[]⟩], .bool false]) (by simp [results, Try.results11, go_sem, hb0, hb1]) rfl ⟨rfl, by rw [HBB.out]; exact (hB2.setCell (Nat.le_refl _) _).setCell (Nat.le_refl _) _⟩
  · by_cases hin : (n : Int) < i
    · rw [at_low (.inr (by omega))] at ha
      injection ha with ha1 ha2
      subst ha1; subst ha2
      clear hown hal
      go_wp2
      exact bodyPost_ret (v := .tuple #[.agg #[.string ⟨#[]⟩, .string ⟨#[]⟩], .bool false]) (by simp [results, Try.results11, go_sem, hb0, hb1]) rfl ⟨rfl, by rw [HBB.out]; exact (hB2.setCell (Nat.le_refl _) _).setCell (Nat.le_refl _) _⟩
    · obtain ⟨k, rfl⟩ : ∃ k : Nat, i = ((k + 1 : Nat) : Int) := ⟨(i - 1).toNat, by omega⟩
      rw [at_here _ k (by omega)] at ha
      injection ha with ha1 ha2
      subst ha2
      obtain ⟨gg, rfl, _, _, hcc⟩ := own_fields hown (by omega)
      obtain ⟨hq0, hq1⟩ := hcc k (by omega)
      rw [ha1] at hq0 hq1
      have hw1 : IntKind.i64.wrap (((k + 1 : Nat) : Int) - 1) = (k : Int) := by rw [IntWalk.i64_in _ (by omega)]; omega
      have hkI : (k : Int) < (n : Int) := by omega
      have hk1 : ¬ ((k + 1 : Nat) : Int) < 1 := by omega
      have hk2 : ¬ (n : Int) < ((k + 1 : Nat) : Int) := by omega
      clear hown hal hcc ha1 hi1 hin
      generalize k + 1 = k1 at *
      go_wp2
      exact bodyPost_ret (v := .tuple #[.agg #[.string f.1, .string f.2], .bool true]) (by simp [results, Try.results11, go_sem, hb0, hb1]) rfl ⟨rfl, by rw [HBB.out]; exact (hB2.setCell (Nat.le_refl _) _).setCell (Nat.le_refl _) _⟩
set_option maxRecDepth 100000 in
set_option maxHeartbeats 1000000 in
theorem rfind_any (w : World) (bx m : Nat) (g : Option Nat) (l : List Tk.Fd) (x y : ByteArray) (r : Nat × Bool) (h : RTab w bx g m l) (hr : Tk.find (x, y) (Tk.all l) 0 0 = r) (hl : l.length ≤ 3000) :
    Calls Try.prog 28 #[.pointer (some ⟨bx, 0, none⟩), .agg #[.string x, .string y]] w fun e w' => e = .returned (.tuple #[.int .i64 (r.1 : Int), .bool r.2]) ∧ Below w.heap.size w w' := by
  have hB : Below w.heap.size w (w.alloc (.cells #[.string x, .string y] 30)) := (Below.refl _ _).alloc (Nat.le_refl _) _
  have h1 := h.below hB
  have hfz := heap_alloc_new w (.cells #[.string x, .string y] 30)
  have hal := Tk.all_length l
  have HST := Lib.hid (fun i n (hk : i < (Tk.all l).length) => Tk.find_step (x, y) (Tk.all l) i n hk)
  have HEN := Lib.hid (fun i n (hk : (Tk.all l).length ≤ i) => Tk.find_end (x, y) (Tk.all l) i n hk)
  go_enter Try.func28, Try.ntmps28
  go_upto_region 1 with fail
  generalize w.alloc (.cells #[.string x, .string y] 30) = w1 at *
  generalize hBB : w.heap.size = B at *
  have HBB := Lib.hid hBB
  have HFZ := Lib.hid hfz
  clear hBB hfz h
  go_wp2_with fail
  refine (rall_any w1 bx m g l h1 hl).mono ?_
  rintro e w2 ⟨A, c, rfl, hown, hb2⟩
  have hfz2 : w2.heap[B]? = _ := (hb2.block B (heap_lt HFZ.out)).trans HFZ.out
  have hB2 : Below B w w2 := hB.trans (hb2.mono (Nat.le_of_lt (heap_lt HFZ.out)))
  have HFZ2 := Lib.hid hfz2
  have HAL := Lib.hid hal
  have HR : Hid (Tk.find (x, y) ((Tk.all l).drop 0) 0 0 = r) := hr
  clear hfz2 h1 hb2 hB hal hr
  generalize hn : 61 + l.length = n at *
  have hn4 : n ≤ 4000 := by omega
  have hn0 : 0 < n := by omega
  have hnI : (n : Int) ≤ 4000 := by omega
  generalize Tk.all l = al at *
  clear hn
  obtain ⟨gg, rfl, _, hgl, hcc⟩ := own_fields hown hn0
  have HCC := Lib.hid hcc
  have hBl := heap_lt HFZ2.out
  clear hcc hown
  go_wp2
  go_loopw [7, 8] (fun nm i wr => ∃ k named : Nat, k ≤ n ∧ named ≤ k ∧ i = .int .i64 (k : Int) ∧ nm = .int .i64 (named : Int) ∧ Tk.find (x, y) (al.drop k) k named = r ∧ ∃ nd, wr = w2.drewN nd) (fun _ i _ => n - (intOf i).toNat)
  case atStart => exact ⟨0, 0, Nat.zero_le _, Nat.le_refl _, rfl, rfl, HR.out, 0, rfl⟩
  case round =>
    obtain ⟨k, named, hk, hnk, rfl, rfl, hfd, nd, rfl⟩ := hrel
    by_cases hlt : k < n
    · have hkI : (k : Int) < (n : Int) := by omega
      rw [HST.out k named (by rw [HAL.out]; exact hlt)] at hfd
      obtain ⟨hq0, hq1⟩ := HCC.out k hlt
      obtain ⟨⟨gx, gy⟩, hg⟩ : ∃ p, al.getD k Tk.nil = p := ⟨_, rfl⟩
      rw [hg] at hq0 hq1 hfd
      have HFD := Lib.hid hfd
      clear hg hfd
      simp only at hq0 hq1
      have hc0 : w2.cell? ⟨B, 0, none⟩ = some (.string x) := cell_of_blk HFZ2.out 0 _ rfl
      have hc1 : w2.cell? ⟨B, 1, none⟩ = some (.string y) := cell_of_blk HFZ2.out 1 _ rfl
      go_upto_region 6 with fail
      by_cases hx : gx = x
      · subst hx
        by_cases hy : gy = y
        · subst hy
          have hr := HFD.out
          rw [if_pos rfl] at hr
          subst hr
          go_quiet (fail)
          go_wp2
          go_ret2
          exact ⟨rfl, by rw [HBB.out]; exact below_drewN' hB2 _⟩
        · have hyl := toList_ne hy
          have hyb : (gy.toList == y.toList) = false := by rw [beq_eq_false_iff_ne]; exact hyl
          have hr := HFD.out
          rw [if_neg (by intro e; injection e with _ e; exact hy e)] at hr
          have HY := Lib.hid hy
          clear hy
          by_cases hz : named = 0
          · have hzI : ((named : Int) == 0) = true := by rw [beq_iff_eq]; omega
            rw [if_pos ⟨hz, rfl⟩] at hr
            have HR2 := Lib.hid hr
            have HZ := Lib.hid hz
            clear hr hz
            go_quiet (fail)
            go_upto_region 8 with fail
            go_quiet (fail)
            go_wp2
            go_roundw
            case measure => simp [intOf] <;> omega
            case rel => exact ⟨k + 1, k + 1, by omega, by omega, by go_num, by go_num, HR2.out, _, rfl⟩
          · have hzI : ((named : Int) == 0) = false := by rw [beq_eq_false_iff_ne]; omega
            rw [if_neg (fun h => hz h.1)] at hr
            have HR2 := Lib.hid hr
            have HZ := Lib.hid hz
            clear hr hz
            go_quiet (fail)
            go_upto_region 8 with fail
            go_quiet (fail)
            go_wp2
            go_roundw
            case measure => simp [intOf] <;> omega
            case rel => exact ⟨k + 1, named, by omega, by omega, by go_num, rfl, HR2.out, _, rfl⟩
      · have hxl := toList_ne hx
        have hxb : (gx.toList == x.toList) = false := by rw [beq_eq_false_iff_ne]; exact hxl
        have hr := HFD.out
        rw [if_neg (by intro e; injection e with e; exact hx e), if_neg (fun h => hx h.2)] at hr
        have HR2 := Lib.hid hr
        have HX := Lib.hid hx
        clear hr hx
        go_quiet (fail)
        go_upto_region 8 with fail
        go_quiet (fail)
        go_wp2
        go_roundw
        case measure => simp [intOf] <;> omega
        case rel => exact ⟨k + 1, named, by omega, by omega, by go_num, rfl, HR2.out, _, rfl⟩
    · obtain rfl : k = n := by omega
      rw [HEN.out k named (by rw [HAL.out]; exact Nat.le_refl _)] at hfd
      subst hfd
      go_wp2
      go_ret2
      exact ⟨rfl, by rw [HBB.out]; exact below_drewN' hB2 _⟩
end Go.Proofs.Ytjdobemljghkbaa
