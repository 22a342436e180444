/- hpack's NewDecoder, NewEncoder, their limits and sizes, walked. -/
import Derived.Test.YtmjibpjnhehnnaaKj
namespace Go.Proofs.Ytmjibpjnhehnnaa
open Go.RowKit
attribute [local go_sem ↓] Go.wp_at_zero Go.wp_at_succ

set_option maxRecDepth 100000 in
theorem newTables_any (w : World) : Calls Try.prog 25 #[] w fun e w' => e = .returned (.agg #[.pointer (some ⟨w.heap.size + 1, 0, none⟩)]) ∧ Tab w' (w.heap.size + 1) none [] 0 4096 ∧ Below w.heap.size w w' ∧ w.heap.size + 1 < w'.heap.size := by
  go_enter Try.func25, Try.ntmps25
  go_upto_region 1 with fail
  have hB1 : Below w.heap.size w (w.alloc (.cells #[.pointer none] 52)) := (Below.refl _ _).alloc (Nat.le_refl _) _
  have hbx := heap_alloc_new w (.cells #[.pointer none] 52)
  have hz1 : (w.alloc (.cells #[.pointer none] 52)).heap.size = w.heap.size + 1 := by simp
  generalize w.alloc (.cells #[.pointer none] 52) = w1 at *
  generalize hBB : w.heap.size = B at *
  have HBB := Lib.hid hBB
  clear hBB
  have HZ := Lib.hid hz1
  clear hz1
  go_wp2_with fail
  refine (new_good w1 4096 (by omega)).mono ?_
  rintro e w2 ⟨rfl, hb2, hz2, hT2⟩
  rw [HZ.out] at hT2 hz2 ⊢
  have hbx2 : w2.heap[B]? = _ := (hb2.block B (by have := HZ.out; omega)).trans hbx
  have hB2 : Below B w w2 := hB1.trans (hb2.mono (by have := HZ.out; omega))
  have hc0 : w2.cell? ⟨B, 0, none⟩ = some (.pointer none) := bcell_of hbx2 0 _ rfl
  have hf0 : w2.frozen? ⟨B, 0, none⟩ = false := frozen_of_row w2 B 0 _ _ hbx2
  have HZ2 := Lib.hid hz2
  clear hbx hbx2 hb2 hB1 hz2
  go_wp2
  refine bodyPost_ret (v := .agg #[.pointer (some ⟨B + 1, 0, none⟩)]) (by simp [results, Try.results25, go_sem, hc0]) rfl ?_
  rw [HBB.out]
  refine ⟨rfl, ?_, hB2.setCell (Nat.le_refl _) _, ?_⟩
  · exact hT2.only (S := fun k => k = B) (Only.setCell (S := fun k => k = B) (p := ⟨B, 0, none⟩) (Only.refl _ w2) (.inr rfl) _) (by omega) (fun k hk => by cases hk)
  · simp [World.setCell]
    have := HZ2.out
    omega
set_option maxRecDepth 100000 in
theorem newDec_bad (w : World) (n : Int) (h : n < 1) : Calls Try.prog 8 #[.int .i64 n] w fun e w' => e = .returned (.tuple #[.pointer none, .int .i64 1]) ∧ w = w' := by
  go_enter Try.func8, Try.ntmps8
  go_wp2
  go_ret2
  exact ⟨rfl, rfl⟩
set_option maxRecDepth 100000 in
theorem newDec_good (w : World) (n : Nat) (h : 1 ≤ n) : Calls Try.prog 8 #[.int .i64 (n : Int)] w fun e w' => ∃ d, e = .returned (.tuple #[.pointer (some ⟨d, 0, none⟩), .int .i64 0]) ∧ w.heap.size + 1 < d ∧ Tab w' (w.heap.size + 1) none [] 0 4096 ∧ w'.heap[d]? = some (.cells (DB (w.heap.size + 1) n 4096 0) 55 (0, 0)) ∧ Below w.heap.size w w' := by
  have hI : ¬ (n : Int) < 1 := by omega
  clear h
  go_enter Try.func8, Try.ntmps8
  go_wp2_with fail
  refine (newTables_any w).mono ?_
  rintro e w2 ⟨rfl, hT, hb, hlt⟩
  go_wp2
  go_ret2
  have hb3 : Below w2.heap.size w2 (w2.alloc (.cells #[.pointer (some ⟨w.heap.size + 1, 0, none⟩), .int .i64 (n : Int), .int .i64 4096, .int .i64 0] 55)) := (Below.refl _ _).alloc (Nat.le_refl _) _
  exact ⟨_, rfl, hlt, hT.below hb3, heap_alloc_new w2 _, hb.trans (hb3.mono (by omega))⟩
set_option maxRecDepth 100000 in
theorem newEnc_any (w : World) : Calls Try.prog 13 #[] w fun e w' => ∃ d, e = .returned (.pointer (some ⟨d, 0, none⟩)) ∧ w.heap.size + 1 < d ∧ Tab w' (w.heap.size + 1) none [] 0 4096 ∧ w'.heap[d]? = some (.cells #[.pointer (some ⟨w.heap.size + 1, 0, none⟩), .int .i64 4096, .int .i64 4096] 65 (0, 0)) ∧ Below w.heap.size w w' := by
  go_enter Try.func13, Try.ntmps13
  go_wp2_with fail
  refine (newTables_any w).mono ?_
  rintro e w2 ⟨rfl, hT, hb, hlt⟩
  go_wp2
  go_ret
  have hb3 : Below w2.heap.size w2 (w2.alloc (.cells #[.pointer (some ⟨w.heap.size + 1, 0, none⟩), .int .i64 4096, .int .i64 4096] 65)) := (Below.refl _ _).alloc (Nat.le_refl _) _
  exact ⟨_, rfl, hlt, hT.below hb3, heap_alloc_new w2 _, hb.trans (hb3.mono (by omega))⟩
set_option maxRecDepth 100000 in
theorem dlimit_bad (w : World) (d : Nat) (n : Int) (h : n < 0 ∨ 65536 < n) : Calls Try.prog 23 #[.pointer (some ⟨d, 0, none⟩), .int .i64 n] w fun e w' => e = .returned (.int .i64 5) ∧ w = w' := by
  rcases h with h1 | h1
  · go_enter Try.func23, Try.ntmps23
    go_wp2
    go_ret
    exact ⟨rfl, rfl⟩
  · have h0 : ¬ n < 0 := by omega
    go_enter Try.func23, Try.ntmps23
    go_wp2
    go_ret
    exact ⟨rfl, rfl⟩
set_option maxRecDepth 100000 in
theorem dlimit_good (w : World) (b d lst lim br n : Nat) (hd : w.heap[d]? = some (.cells (DB b lst lim br) 55 (0, 0))) (hn : n ≤ 65536) :
    Calls Try.prog 23 #[.pointer (some ⟨d, 0, none⟩), .int .i64 (n : Int)] w fun e w' => e = .returned (.int .i64 0) ∧ w'.heap[d]? = some (.cells (DB b lst n br) 55 (0, 0)) ∧ Only (fun k => k = d) w w' := by
  have h0 : ¬ (n : Int) < 0 := by omega
  have h1 : ¬ (65536 : Int) < (n : Int) := by omega
  have hc2 : w.cell? ⟨d, 2, none⟩ = some (.int .i64 (lim : Int)) := bcell_of hd 2 _ rfl
  have hf2 : w.frozen? ⟨d, 2, none⟩ = false := frozen_of_row w d 2 _ _ hd
  have HD := Lib.hid hd
  clear hd
  go_enter Try.func23, Try.ntmps23
  go_wp2
  go_ret
  exact ⟨rfl, (heap_setCell_same w d 2 _ _ _ HD.out).trans rfl, Only.setCell (S := fun k => k = d) (p := ⟨d, 2, none⟩) (Only.refl _ w) (.inr rfl) _⟩
set_option maxRecDepth 100000 in
theorem dsize_any (w : World) (b d lst lim br s m : Nat) (g : Option Nat) (l : List Tk.Fd) (hT : Tab w b g l s m) (hd : w.heap[d]? = some (.cells (DB b lst lim br) 55 (0, 0))) :
    Calls Try.prog 11 #[.pointer (some ⟨d, 0, none⟩)] w fun e w' => e = .returned (.int .i64 (s : Int)) ∧ w = w' := by
  have HS := Lib.hid (tsize_any w d b s m g l hT (bcell_of hd 0 _ rfl))
  clear hT hd
  go_enter Try.func11, Try.ntmps11
  go_wp2_with fail
  refine HS.out.mono ?_
  rintro e w2 ⟨rfl, rfl⟩
  go_wp2
  go_ret
  exact ⟨rfl, rfl⟩
theorem esize_any (w : World) (b d s m : Nat) (g : Option Nat) (l : List Tk.Fd) (hT : Tab w b g l s m) (hc : w.cell? ⟨d, 0, none⟩ = some (.pointer (some ⟨b, 0, none⟩))) :
    Calls Try.prog 20 #[.pointer (some ⟨d, 0, none⟩)] w fun e w' => e = .returned (.int .i64 (s : Int)) ∧ w = w' := by
  have HS := Lib.hid (tsize_any w d b s m g l hT hc)
  clear hT hc
  go_enter Try.func20, Try.ntmps20
  go_wp2_with fail
  refine HS.out.mono ?_
  rintro e w2 ⟨rfl, rfl⟩
  go_wp2
  go_ret
  exact ⟨rfl, rfl⟩
end Go.Proofs.Ytmjibpjnhehnnaa
