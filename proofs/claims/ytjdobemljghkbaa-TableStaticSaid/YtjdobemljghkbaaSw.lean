/- The law of the static fields: walked whole. -/
import Derived.Test.YtjdobemljghkbaaTx
namespace Go.Proofs.Ytjdobemljghkbaa
open Go.RowKit
attribute [local go_sem ↓] Go.wp_at_zero Go.wp_at_succ

theorem i64_bounds {h : Int} (wf : (Lit.int .i64 h).wf = true) : -9223372036854775808 ≤ h ∧ h ≤ 9223372036854775807 := by
  have h2 : IntKind.i64.min ≤ h ∧ h ≤ IntKind.i64.max := by simpa [Lit.wf] using wf
  have h3 : IntKind.i64.min = -9223372036854775808 := by decide
  have h4 : IntKind.i64.max = 9223372036854775807 := by decide
  omega
theorem at_static (i : Int) : (Tk.at_ (Tk.all []) i).2 = (decide (1 ≤ i) && decide (i ≤ 61)) := by
  unfold Tk.at_
  have : (Tk.all []).length = 61 := by decide
  rw [this]
  by_cases h1 : 1 ≤ i <;> by_cases h2 : i ≤ 61 <;> simp [h1, h2]

set_option maxRecDepth 100000 in
set_option maxHeartbeats 4000000 in
theorem static_true (w : World) (i : Int) (wf : (Lit.int .i64 i).wf = true) : Calls Try.prog 3 #[.int .i64 i] w fun e w' => e = .returned (.bool true) ∧ Below w.heap.size w w' := by
  have hi := i64_bounds wf
  obtain ⟨f, is, ha⟩ : ∃ f is, Tk.at_ (Tk.all []) i = (f, is) := ⟨_, _, rfl⟩
  have his : is = (decide (1 ≤ i) && decide (i ≤ 61)) := by rw [← at_static i, ha]
  obtain ⟨x, y⟩ := f
  go_enter Try.func3, Try.ntmps3
  go_wp2_with fail
  refine (new_good w 0 (by omega)).mono ?_
  rintro e w1 ⟨rfl, hb1, hz1, hT1⟩
  go_wp2_with fail
  refine (rnew_good w1 0 (by omega)).mono ?_
  rintro e w2 ⟨rfl, hb2, hz2, hR2⟩
  have hT2 := hT1.below hb2
  have hB2 : Below w.heap.size w w2 := bel2 hb1 hb2
  generalize hbb : w.heap.size = b at *
  have HBB := Lib.hid hbb
  have hbw1 : b < w1.heap.size := by omega
  generalize w1.heap.size = bx at *
  have hbw2 : bx < w2.heap.size := by omega
  clear hbb hz1 hz2 hb1 hb2 hT1
  go_wp2_with fail
  refine (at_xy w2 b _ 0 none [] i x y is hT2 ha (by omega)).mono ?_
  rintro e w3 ⟨rfl, hb3⟩
  have hB3 := belB hB2 (by omega) hb3
  have hR3 := hR2.below hb3
  have hz3 := hb3.size
  clear hb3 hT2 hR2 hB2
  go_upto_region 6 with fail
  have hb4 : Below w3.heap.size w3 (w3.alloc (.cells #[.string x, .string y] 30)) := (Below.refl _ _).alloc (Nat.le_refl _) _
  have hbx := heap_alloc_new w3 (.cells #[.string x, .string y] 30)
  have hR4 := hR3.below hb4
  have hB4 := belB hB3 (by omega) hb4
  have hz4 := hb4.size
  clear hb4 hR3 hB3
  generalize w3.alloc (.cells #[.string x, .string y] 30) = w4 at *
  generalize w3.heap.size = B1 at *
  have HX := Lib.hid hbx
  clear hbx
  go_wp2_with fail
  refine (rat_any w4 bx 0 none [] i (x, y) is hR4 ha (by simp)).mono ?_
  rintro e w5 ⟨rfl, hb5⟩
  have hx5 := (hb5.block B1 (heap_lt HX.out)).trans HX.out
  have hB5 := belB hB4 (by omega) hb5
  have hz5 := hb5.size
  clear hb5 hR4 hB4 HX
  have HX := Lib.hid hx5
  clear hx5
  go_upto_region 7 with fail
  have hb6 : Below w5.heap.size w5 (w5.alloc (.cells #[.string x, .string y] 30)) := (Below.refl _ _).alloc (Nat.le_refl _) _
  have hy6 := heap_alloc_new w5 (.cells #[.string x, .string y] 30)
  have hx6 := (hb6.block B1 (heap_lt HX.out)).trans HX.out
  have hB6 := belB hB5 (by omega) hb6
  have hz6 := hb6.size
  clear hb6 hB5 HX
  generalize w5.alloc (.cells #[.string x, .string y] 30) = w6 at *
  generalize w5.heap.size = B2 at *
  have HX := Lib.hid hx6
  have HY := Lib.hid hy6
  clear hx6 hy6
  go_wp2_with fail
  refine (awake_true w6).mono ?_
  rintro e w7 ⟨rfl, hb7⟩
  have hx7 := (hb7.block B1 (heap_lt HX.out)).trans HX.out
  have hy7 := (hb7.block B2 (heap_lt HY.out)).trans HY.out
  have hB7 := belB hB6 (by omega) hb7
  have hc0 : w7.cell? ⟨B1, 0, none⟩ = some (.string x) := cell_of_blk hx7 0 _ rfl
  have hc1 : w7.cell? ⟨B1, 1, none⟩ = some (.string y) := cell_of_blk hx7 1 _ rfl
  have hd0 : w7.cell? ⟨B2, 0, none⟩ = some (.string x) := cell_of_blk hy7 0 _ rfl
  have hd1 : w7.cell? ⟨B2, 1, none⟩ = some (.string y) := cell_of_blk hy7 1 _ rfl
  clear hb7 hB6 hx7 hy7 HX HY hz3 hz4 hz5 hz6 hbw1 hbw2 wf hi ha
  by_cases h1 : 1 ≤ i
  · by_cases h2 : i ≤ 61
    · have hh : is = true := by rw [his]; simp [h1, h2]
      subst hh
      clear his
      go_wp2
      go_ret
      exact ⟨rfl, by rw [HBB.out]; exact hB7⟩
    · have hh : is = false := by rw [his]; simp [h2]
      subst hh
      clear his
      go_wp2
      go_ret
      exact ⟨rfl, by rw [HBB.out]; exact hB7⟩
  · have hh : is = false := by rw [his]; simp [h1]
    subst hh
    clear his
    go_wp2
    go_ret
    exact ⟨rfl, by rw [HBB.out]; exact hB7⟩
end Go.Proofs.Ytjdobemljghkbaa
