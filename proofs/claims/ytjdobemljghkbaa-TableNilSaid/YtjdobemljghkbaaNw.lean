/- The law of no table: walked whole. -/
import Derived.Test.YtjdobemljghkbaaTx
namespace Go.Proofs.Ytjdobemljghkbaa
open Go.RowKit
attribute [local go_sem ↓] Go.wp_at_zero Go.wp_at_succ

set_option maxRecDepth 100000 in
theorem nadd (w : World) (x y : ByteArray) : Calls Try.prog 23 #[.pointer none, .agg #[.string x, .string y]] w fun e w' => e = .returned (.tuple #[]) ∧ Below w.heap.size w w' := by
  have hB : Below w.heap.size w (w.alloc (.cells #[.string x, .string y] 30)) := (Below.refl _ _).alloc (Nat.le_refl _) _
  go_enter Try.func23, Try.ntmps23
  go_upto_region 1 with fail
  generalize w.alloc (.cells #[.string x, .string y] 30) = w1 at *
  go_wp2
  exact bodyPost_ret (results_none rfl _ _ _) rfl ⟨rfl, hB⟩
set_option maxRecDepth 100000 in
theorem nfind (w : World) (x y : ByteArray) : Calls Try.prog 27 #[.pointer none, .agg #[.string x, .string y]] w fun e w' => e = .returned (.tuple #[.int .i64 0, .bool false]) ∧ Below w.heap.size w w' := by
  have hB : Below w.heap.size w (w.alloc (.cells #[.string x, .string y] 30)) := (Below.refl _ _).alloc (Nat.le_refl _) _
  go_enter Try.func27, Try.ntmps27
  go_upto_region 1 with fail
  generalize w.alloc (.cells #[.string x, .string y] 30) = w1 at *
  go_wp2
  go_ret2
  exact ⟨rfl, hB⟩
set_option maxRecDepth 100000 in
theorem nat_ (w : World) (i : Int) : Calls Try.prog 10 #[.pointer none, .int .i64 i] w fun e w' => e = .returned (.tuple #[.agg #[.string ⟨#[]⟩, .string ⟨#[]⟩], .bool false]) ∧ Below w.heap.size w w' := by
  have hB : Below w.heap.size w (w.alloc (.cells #[.string ⟨#[]⟩, .string ⟨#[]⟩] 30)) := (Below.refl _ _).alloc (Nat.le_refl _) _
  go_enter Try.func10, Try.ntmps10
  go_wp2
  exact bodyPost_ret (v := .tuple #[.agg #[.string ⟨#[]⟩, .string ⟨#[]⟩], .bool false]) (by simp [results, Try.results10, go_sem]) rfl ⟨rfl, hB⟩
theorem nresize (w : World) (n : Int) : Calls Try.prog 25 #[.pointer none, .int .i64 n] w fun e w' => e = .returned (.int .i64 2) ∧ w = w' := by
  go_enter Try.func25, Try.ntmps25
  go_wp2
  go_ret
  exact ⟨rfl, rfl⟩
-- small
theorem nsize (w : World) : Calls Try.prog 29 #[.pointer none] w fun e w' => e = .returned (.int .i64 0) ∧ w = w' := by
  go_enter Try.func29, Try.ntmps29
  go_wp2
  go_ret
  exact ⟨rfl, rfl⟩
theorem nmost (w : World) : Calls Try.prog 31 #[.pointer none] w fun e w' => e = .returned (.int .i64 0) ∧ w = w' := by
  go_enter Try.func31, Try.ntmps31
  go_wp2
  go_ret
  exact ⟨rfl, rfl⟩
theorem nlen (w : World) : Calls Try.prog 32 #[.pointer none] w fun e w' => e = .returned (.int .i64 0) ∧ w = w' := by
  go_enter Try.func32, Try.ntmps32
  go_wp2
  go_ret
  exact ⟨rfl, rfl⟩
theorem rlen (w : World) : Calls Try.prog 38 #[.pointer none] w fun e w' => e = .returned (.int .i64 0) ∧ w = w' := by
  go_enter Try.func38, Try.ntmps38
  go_wp2
  go_ret
  exact ⟨rfl, rfl⟩
theorem rat_ (w : World) (i : Int) : Calls Try.prog 37 #[.pointer none, .int .i64 i] w fun e w' => e = .returned (.tuple #[.string ⟨#[]⟩, .bool false]) ∧ w = w' := by
  go_enter Try.func37, Try.ntmps37
  go_wp2
  go_ret2
  exact ⟨rfl, rfl⟩
theorem rpush (w : World) (x : ByteArray) : Calls Try.prog 35 #[.pointer none, .string x] w fun e w' => e = .returned (.tuple #[]) ∧ w = w' := by
  go_enter Try.func35, Try.ntmps35
  go_wp2
  exact bodyPost_ret (results_none rfl _ _ _) rfl ⟨rfl, rfl⟩
theorem rpop (w : World) : Calls Try.prog 36 #[.pointer none] w fun e w' => e = .returned (.tuple #[.string ⟨#[]⟩, .bool false]) ∧ w = w' := by
  go_enter Try.func36, Try.ntmps36
  go_wp2_with fail
  refine (rlen _).mono ?_
  rintro e w1 ⟨rfl, rfl⟩
  go_wp2_with fail
  refine (rat_ _ _).mono ?_
  rintro e w1 ⟨rfl, rfl⟩
  go_wp2
  go_ret2
  exact ⟨rfl, rfl⟩
set_option maxRecDepth 100000 in
set_option maxHeartbeats 4000000 in
theorem tableNil_true (w : World) (n : Int) (_wf : (Lit.int .i64 n).wf = true) (x : ByteArray) (_hx : x.size ≤ maxLen) (y : ByteArray) (_hy : y.size ≤ maxLen) : Calls Try.prog 7 #[.int .i64 n, .string x, .string y] w fun e w' => e = .returned (.bool true) ∧ Below w.heap.size w w' := by
  clear _wf _hx _hy
  go_enter Try.func7, Try.ntmps7
  go_wp2_with fail
  refine (field_any w x y).mono ?_
  rintro e w1 ⟨rfl, hb1⟩
  go_wp2_with fail
  refine (nadd w1 x y).mono ?_
  rintro e w2 ⟨rfl, hb2⟩
  have hB2 := bel2 hb1 hb2
  clear hb1 hb2
  go_wp2_with fail
  refine (nat_ w2 n).mono ?_
  rintro e w3 ⟨rfl, hb3⟩
  have hB3 := bel2 hB2 hb3
  clear hB2 hb3
  go_upto_region 5 with fail
  have hb4 : Below w3.heap.size w3 (w3.alloc (.cells #[.string ⟨#[]⟩, .string ⟨#[]⟩] 30)) := (Below.refl _ _).alloc (Nat.le_refl _) _
  have hx4 := heap_alloc_new w3 (.cells #[.string ⟨#[]⟩, .string ⟨#[]⟩] 30)
  have hB4 := bel2 hB3 hb4
  clear hB3 hb4
  generalize w3.alloc (.cells #[.string ⟨#[]⟩, .string ⟨#[]⟩] 30) = w4 at *
  generalize w3.heap.size = B at *
  have HX := Lib.hid hx4
  clear hx4
  go_wp2_with fail
  refine (field_any w4 x y).mono ?_
  rintro e w5 ⟨rfl, hb5⟩
  go_wp2_with fail
  refine (nfind w5 x y).mono ?_
  rintro e w6 ⟨rfl, hb6⟩
  have hx5 := (hb5.block B (heap_lt HX.out)).trans HX.out
  have hx6 := (hb6.block B (heap_lt hx5)).trans hx5
  have hB6 := bel2 (bel2 hB4 hb5) hb6
  clear hB4 hb5 hb6 HX hx5
  have hc0 : w6.cell? ⟨B, 0, none⟩ = some (.string ⟨#[]⟩) := cell_of_blk hx6 0 _ rfl
  have hc1 : w6.cell? ⟨B, 1, none⟩ = some (.string ⟨#[]⟩) := cell_of_blk hx6 1 _ rfl
  clear hx6
  go_wp2_with fail
  refine (rpush _ _).mono ?_
  rintro e wx ⟨rfl, rfl⟩
  go_wp2_with fail
  refine (rpop _).mono ?_
  rintro e wx ⟨rfl, rfl⟩
  go_wp2_with fail
  refine (rat_ _ _).mono ?_
  rintro e wx ⟨rfl, rfl⟩
  go_wp2_with fail
  refine (rlen _).mono ?_
  rintro e wx ⟨rfl, rfl⟩
  go_wp2_with fail
  refine (awake_true _).mono ?_
  rintro e w7 ⟨rfl, hb7⟩
  have hB7 := bel2 hB6 hb7
  clear hB6 hb7 hc0 hc1
  go_wp2_with fail
  refine (nresize _ _).mono ?_
  rintro e wx ⟨rfl, rfl⟩
  go_wp2_with fail
  refine (nsize _).mono ?_
  rintro e wx ⟨rfl, rfl⟩
  go_wp2_with fail
  refine (nmost _).mono ?_
  rintro e wx ⟨rfl, rfl⟩
  go_wp2_with fail
  refine (nlen _).mono ?_
  rintro e wx ⟨rfl, rfl⟩
  go_wp2
  go_ret
  exact ⟨rfl, hB7⟩
end Go.Proofs.Ytjdobemljghkbaa
