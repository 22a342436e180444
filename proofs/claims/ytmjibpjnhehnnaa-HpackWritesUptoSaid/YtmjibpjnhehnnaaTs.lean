/- The static fields: table.static walked; Weight, field. -/
import Derived.Test.YtmjibpjnhehnnaaTf
import Derived.Test.YtmjibpjnhehnnaaTa
import Derived.Test.YtmjibpjnhehnnaaHq
namespace Go.Proofs.Ytmjibpjnhehnnaa
open Go.RowKit
attribute [local go_sem ↓] Go.wp_at_zero Go.wp_at_succ

/-- The static fields' cells. -/
def statA : Array Value := (Tk.statics.flatMap encF).toArray
def zeros122 : Array Value := (List.replicate 122 (Value.string ⟨#[]⟩)).toArray
theorem statA_size : statA.size = 122 := by decide +kernel
theorem flat_at (l : List (ByteArray × ByteArray)) (k : Nat) (h : k < l.length) : (l.flatMap encF)[k * 2]? = some (.string (l.getD k Tk.nil).1) ∧ (l.flatMap encF)[k * 2 + 1]? = some (.string (l.getD k Tk.nil).2) := by
  induction l generalizing k with
  | nil => simp at h
  | cons f l ih =>
    cases k with
    | zero => exact ⟨rfl, rfl⟩
    | succ k =>
      have := ih k (by simpa using h)
      have e1 : (f :: l).flatMap encF = Value.string f.1 :: Value.string f.2 :: l.flatMap encF := rfl
      rw [e1, show (k + 1) * 2 = k * 2 + 1 + 1 from by omega]
      simp only [List.getElem?_cons_succ, List.getD_cons_succ]
      exact this
theorem statA_at (k : Nat) (h : k < 61) : statA[k * 2]? = some (.string (Tk.statics.getD k Tk.nil).1) ∧ statA[k * 2 + 1]? = some (.string (Tk.statics.getD k Tk.nil).2) := by
  have := flat_at Tk.statics k (by rw [Tk.statics_length]; exact h)
  unfold statA
  rw [List.getElem?_toArray, List.getElem?_toArray]
  exact this
theorem info_77 : (Try.prog.info? 134).map (·.size) = some 122 := by kernel_rfl
theorem statA_info : (Try.prog.info? 134).map (·.size) = some statA.size := by rw [statA_size]; exact info_77
theorem statA_one : statA.all (·.oneCell') = true := by
  rw [Array.all_eq_true_iff_forall_mem]
  intro v hv
  simp only [statA, List.mem_toArray, List.mem_flatMap] at hv
  obtain ⟨f, _, hv⟩ := hv
  simp [encF] at hv
  rcases hv with rfl | rfl <;> rfl
theorem static_store {o : Oper} {a : Act} {p q : Nat} (w : World) (ho : o.op = .store 134 (.tmp p) (.tmp q)) (h0 : a.eval (.tmp p) = .pointer (some ⟨w.heap.size, 0, none⟩)) (h1 : a.eval (.tmp q) = .agg statA) :
    (execOp a.eval o).run Try.prog (w.alloc (.cells zeros122 134)) = .ok .skip (w.alloc (.cells statA 134)) := by
  unfold execOp
  simp only [ho, h0, h1, Sem.run_bind, run_storeAt_new w 134 zeros122 statA statA_info (by rw [statA_size, zeros122, List.size_toArray, List.length_replicate]) statA_one, Sem.run_pure, Result.andThen_ok]

set_option maxRecDepth 100000 in
set_option maxHeartbeats 1000000 in
theorem static_any (w : World) (k : Nat) (hk : k < 61) (f : Tk.Fd) (hf : Tk.statics.getD k Tk.nil = f) :
    Calls Try.prog 75 #[.int .i64 ((k + 1 : Nat) : Int)] w fun e w' => e = .returned (.agg #[.string f.1, .string f.2]) ∧ Below w.heap.size w w' := by
  have hi : IntKind.i64.wrap (((k + 1 : Nat) : Int) - 1) = (k : Int) := by rw [IntWalk.i64_in _ (by omega)]; omega
  generalize k + 1 = k1 at *
  go_enter Try.func75, Try.ntmps75
  go_upto_region 1 with fail
  have hB : Below w.heap.size w (w.alloc (.cells #[.string ⟨#[]⟩, .string ⟨#[]⟩] 57)) := (Below.refl _ _).alloc (Nat.le_refl _) _
  have hfz := heap_alloc_new w (.cells #[.string ⟨#[]⟩, .string ⟨#[]⟩] 57)
  generalize w.alloc (.cells #[.string ⟨#[]⟩, .string ⟨#[]⟩] 57) = w1 at *
  go_cut [3] (fun s3 wx => s3 = .pointer (some ⟨w1.heap.size, 0, none⟩) ∧ w1.alloc (.cells statA 134) = wx)
  case first =>
    rename_i J K' hJ hK'
    refine wp_region_lit ?_
    refine wpList_closed rfl (v := .agg #[.string (Tk.statics.getD 0 Tk.nil).1, .string (Tk.statics.getD 0 Tk.nil).2]) (w' := w1) (by kernel_rfl) ?_
    refine wpList_closed rfl (v := .agg #[.string (Tk.statics.getD 1 Tk.nil).1, .string (Tk.statics.getD 1 Tk.nil).2]) (w' := w1) (by kernel_rfl) ?_
    refine wpList_closed rfl (v := .agg #[.string (Tk.statics.getD 2 Tk.nil).1, .string (Tk.statics.getD 2 Tk.nil).2]) (w' := w1) (by kernel_rfl) ?_
    refine wpList_closed rfl (v := .agg #[.string (Tk.statics.getD 3 Tk.nil).1, .string (Tk.statics.getD 3 Tk.nil).2]) (w' := w1) (by kernel_rfl) ?_
    refine wpList_closed rfl (v := .agg #[.string (Tk.statics.getD 4 Tk.nil).1, .string (Tk.statics.getD 4 Tk.nil).2]) (w' := w1) (by kernel_rfl) ?_
    refine wpList_closed rfl (v := .agg #[.string (Tk.statics.getD 5 Tk.nil).1, .string (Tk.statics.getD 5 Tk.nil).2]) (w' := w1) (by kernel_rfl) ?_
    refine wpList_closed rfl (v := .agg #[.string (Tk.statics.getD 6 Tk.nil).1, .string (Tk.statics.getD 6 Tk.nil).2]) (w' := w1) (by kernel_rfl) ?_
    refine wpList_closed rfl (v := .agg #[.string (Tk.statics.getD 7 Tk.nil).1, .string (Tk.statics.getD 7 Tk.nil).2]) (w' := w1) (by kernel_rfl) ?_
    refine wpList_closed rfl (v := .agg #[.string (Tk.statics.getD 8 Tk.nil).1, .string (Tk.statics.getD 8 Tk.nil).2]) (w' := w1) (by kernel_rfl) ?_
    refine wpList_closed rfl (v := .agg #[.string (Tk.statics.getD 9 Tk.nil).1, .string (Tk.statics.getD 9 Tk.nil).2]) (w' := w1) (by kernel_rfl) ?_
    refine wpList_closed rfl (v := .agg #[.string (Tk.statics.getD 10 Tk.nil).1, .string (Tk.statics.getD 10 Tk.nil).2]) (w' := w1) (by kernel_rfl) ?_
    refine wpList_closed rfl (v := .agg #[.string (Tk.statics.getD 11 Tk.nil).1, .string (Tk.statics.getD 11 Tk.nil).2]) (w' := w1) (by kernel_rfl) ?_
    refine wpList_closed rfl (v := .agg #[.string (Tk.statics.getD 12 Tk.nil).1, .string (Tk.statics.getD 12 Tk.nil).2]) (w' := w1) (by kernel_rfl) ?_
    refine wpList_closed rfl (v := .agg #[.string (Tk.statics.getD 13 Tk.nil).1, .string (Tk.statics.getD 13 Tk.nil).2]) (w' := w1) (by kernel_rfl) ?_
    refine wpList_closed rfl (v := .agg #[.string (Tk.statics.getD 14 Tk.nil).1, .string (Tk.statics.getD 14 Tk.nil).2]) (w' := w1) (by kernel_rfl) ?_
    refine wpList_closed rfl (v := .agg #[.string (Tk.statics.getD 15 Tk.nil).1, .string (Tk.statics.getD 15 Tk.nil).2]) (w' := w1) (by kernel_rfl) ?_
    refine wpList_closed rfl (v := .agg #[.string (Tk.statics.getD 16 Tk.nil).1, .string (Tk.statics.getD 16 Tk.nil).2]) (w' := w1) (by kernel_rfl) ?_
    refine wpList_closed rfl (v := .agg #[.string (Tk.statics.getD 17 Tk.nil).1, .string (Tk.statics.getD 17 Tk.nil).2]) (w' := w1) (by kernel_rfl) ?_
    refine wpList_closed rfl (v := .agg #[.string (Tk.statics.getD 18 Tk.nil).1, .string (Tk.statics.getD 18 Tk.nil).2]) (w' := w1) (by kernel_rfl) ?_
    refine wpList_closed rfl (v := .agg #[.string (Tk.statics.getD 19 Tk.nil).1, .string (Tk.statics.getD 19 Tk.nil).2]) (w' := w1) (by kernel_rfl) ?_
    refine wpList_closed rfl (v := .agg #[.string (Tk.statics.getD 20 Tk.nil).1, .string (Tk.statics.getD 20 Tk.nil).2]) (w' := w1) (by kernel_rfl) ?_
    refine wpList_closed rfl (v := .agg #[.string (Tk.statics.getD 21 Tk.nil).1, .string (Tk.statics.getD 21 Tk.nil).2]) (w' := w1) (by kernel_rfl) ?_
    refine wpList_closed rfl (v := .agg #[.string (Tk.statics.getD 22 Tk.nil).1, .string (Tk.statics.getD 22 Tk.nil).2]) (w' := w1) (by kernel_rfl) ?_
    refine wpList_closed rfl (v := .agg #[.string (Tk.statics.getD 23 Tk.nil).1, .string (Tk.statics.getD 23 Tk.nil).2]) (w' := w1) (by kernel_rfl) ?_
    refine wpList_closed rfl (v := .agg #[.string (Tk.statics.getD 24 Tk.nil).1, .string (Tk.statics.getD 24 Tk.nil).2]) (w' := w1) (by kernel_rfl) ?_
    refine wpList_closed rfl (v := .agg #[.string (Tk.statics.getD 25 Tk.nil).1, .string (Tk.statics.getD 25 Tk.nil).2]) (w' := w1) (by kernel_rfl) ?_
    refine wpList_closed rfl (v := .agg #[.string (Tk.statics.getD 26 Tk.nil).1, .string (Tk.statics.getD 26 Tk.nil).2]) (w' := w1) (by kernel_rfl) ?_
    refine wpList_closed rfl (v := .agg #[.string (Tk.statics.getD 27 Tk.nil).1, .string (Tk.statics.getD 27 Tk.nil).2]) (w' := w1) (by kernel_rfl) ?_
    refine wpList_closed rfl (v := .agg #[.string (Tk.statics.getD 28 Tk.nil).1, .string (Tk.statics.getD 28 Tk.nil).2]) (w' := w1) (by kernel_rfl) ?_
    refine wpList_closed rfl (v := .agg #[.string (Tk.statics.getD 29 Tk.nil).1, .string (Tk.statics.getD 29 Tk.nil).2]) (w' := w1) (by kernel_rfl) ?_
    refine wpList_closed rfl (v := .agg #[.string (Tk.statics.getD 30 Tk.nil).1, .string (Tk.statics.getD 30 Tk.nil).2]) (w' := w1) (by kernel_rfl) ?_
    refine wpList_closed rfl (v := .agg #[.string (Tk.statics.getD 31 Tk.nil).1, .string (Tk.statics.getD 31 Tk.nil).2]) (w' := w1) (by kernel_rfl) ?_
    refine wpList_closed rfl (v := .agg #[.string (Tk.statics.getD 32 Tk.nil).1, .string (Tk.statics.getD 32 Tk.nil).2]) (w' := w1) (by kernel_rfl) ?_
    refine wpList_closed rfl (v := .agg #[.string (Tk.statics.getD 33 Tk.nil).1, .string (Tk.statics.getD 33 Tk.nil).2]) (w' := w1) (by kernel_rfl) ?_
    refine wpList_closed rfl (v := .agg #[.string (Tk.statics.getD 34 Tk.nil).1, .string (Tk.statics.getD 34 Tk.nil).2]) (w' := w1) (by kernel_rfl) ?_
    refine wpList_closed rfl (v := .agg #[.string (Tk.statics.getD 35 Tk.nil).1, .string (Tk.statics.getD 35 Tk.nil).2]) (w' := w1) (by kernel_rfl) ?_
    refine wpList_closed rfl (v := .agg #[.string (Tk.statics.getD 36 Tk.nil).1, .string (Tk.statics.getD 36 Tk.nil).2]) (w' := w1) (by kernel_rfl) ?_
    refine wpList_closed rfl (v := .agg #[.string (Tk.statics.getD 37 Tk.nil).1, .string (Tk.statics.getD 37 Tk.nil).2]) (w' := w1) (by kernel_rfl) ?_
    refine wpList_closed rfl (v := .agg #[.string (Tk.statics.getD 38 Tk.nil).1, .string (Tk.statics.getD 38 Tk.nil).2]) (w' := w1) (by kernel_rfl) ?_
    refine wpList_closed rfl (v := .agg #[.string (Tk.statics.getD 39 Tk.nil).1, .string (Tk.statics.getD 39 Tk.nil).2]) (w' := w1) (by kernel_rfl) ?_
    refine wpList_closed rfl (v := .agg #[.string (Tk.statics.getD 40 Tk.nil).1, .string (Tk.statics.getD 40 Tk.nil).2]) (w' := w1) (by kernel_rfl) ?_
    refine wpList_closed rfl (v := .agg #[.string (Tk.statics.getD 41 Tk.nil).1, .string (Tk.statics.getD 41 Tk.nil).2]) (w' := w1) (by kernel_rfl) ?_
    refine wpList_closed rfl (v := .agg #[.string (Tk.statics.getD 42 Tk.nil).1, .string (Tk.statics.getD 42 Tk.nil).2]) (w' := w1) (by kernel_rfl) ?_
    refine wpList_closed rfl (v := .agg #[.string (Tk.statics.getD 43 Tk.nil).1, .string (Tk.statics.getD 43 Tk.nil).2]) (w' := w1) (by kernel_rfl) ?_
    refine wpList_closed rfl (v := .agg #[.string (Tk.statics.getD 44 Tk.nil).1, .string (Tk.statics.getD 44 Tk.nil).2]) (w' := w1) (by kernel_rfl) ?_
    refine wpList_closed rfl (v := .agg #[.string (Tk.statics.getD 45 Tk.nil).1, .string (Tk.statics.getD 45 Tk.nil).2]) (w' := w1) (by kernel_rfl) ?_
    refine wpList_closed rfl (v := .agg #[.string (Tk.statics.getD 46 Tk.nil).1, .string (Tk.statics.getD 46 Tk.nil).2]) (w' := w1) (by kernel_rfl) ?_
    refine wpList_closed rfl (v := .agg #[.string (Tk.statics.getD 47 Tk.nil).1, .string (Tk.statics.getD 47 Tk.nil).2]) (w' := w1) (by kernel_rfl) ?_
    refine wpList_closed rfl (v := .agg #[.string (Tk.statics.getD 48 Tk.nil).1, .string (Tk.statics.getD 48 Tk.nil).2]) (w' := w1) (by kernel_rfl) ?_
    refine wpList_closed rfl (v := .agg #[.string (Tk.statics.getD 49 Tk.nil).1, .string (Tk.statics.getD 49 Tk.nil).2]) (w' := w1) (by kernel_rfl) ?_
    refine wpList_closed rfl (v := .agg #[.string (Tk.statics.getD 50 Tk.nil).1, .string (Tk.statics.getD 50 Tk.nil).2]) (w' := w1) (by kernel_rfl) ?_
    refine wpList_closed rfl (v := .agg #[.string (Tk.statics.getD 51 Tk.nil).1, .string (Tk.statics.getD 51 Tk.nil).2]) (w' := w1) (by kernel_rfl) ?_
    refine wpList_closed rfl (v := .agg #[.string (Tk.statics.getD 52 Tk.nil).1, .string (Tk.statics.getD 52 Tk.nil).2]) (w' := w1) (by kernel_rfl) ?_
    refine wpList_closed rfl (v := .agg #[.string (Tk.statics.getD 53 Tk.nil).1, .string (Tk.statics.getD 53 Tk.nil).2]) (w' := w1) (by kernel_rfl) ?_
    refine wpList_closed rfl (v := .agg #[.string (Tk.statics.getD 54 Tk.nil).1, .string (Tk.statics.getD 54 Tk.nil).2]) (w' := w1) (by kernel_rfl) ?_
    refine wpList_closed rfl (v := .agg #[.string (Tk.statics.getD 55 Tk.nil).1, .string (Tk.statics.getD 55 Tk.nil).2]) (w' := w1) (by kernel_rfl) ?_
    refine wpList_closed rfl (v := .agg #[.string (Tk.statics.getD 56 Tk.nil).1, .string (Tk.statics.getD 56 Tk.nil).2]) (w' := w1) (by kernel_rfl) ?_
    refine wpList_closed rfl (v := .agg #[.string (Tk.statics.getD 57 Tk.nil).1, .string (Tk.statics.getD 57 Tk.nil).2]) (w' := w1) (by kernel_rfl) ?_
    refine wpList_closed rfl (v := .agg #[.string (Tk.statics.getD 58 Tk.nil).1, .string (Tk.statics.getD 58 Tk.nil).2]) (w' := w1) (by kernel_rfl) ?_
    refine wpList_closed rfl (v := .agg #[.string (Tk.statics.getD 59 Tk.nil).1, .string (Tk.statics.getD 59 Tk.nil).2]) (w' := w1) (by kernel_rfl) ?_
    refine wpList_closed rfl (v := .agg #[.string (Tk.statics.getD 60 Tk.nil).1, .string (Tk.statics.getD 60 Tk.nil).2]) (w' := w1) (by kernel_rfl) ?_
    refine wpList_closed rfl (v := .agg statA) (w' := w1) (by kernel_rfl) ?_
    refine wpList_closed rfl (v := .pointer (some ⟨w1.heap.size, 0, none⟩)) (w' := w1.alloc (.cells zeros122 134)) (by kernel_rfl) ?_
    refine wpList_closed_skip rfl (w' := w1.alloc (.cells statA 134)) (static_store (p := 3) (q := 65) w1 rfl (by kernel_rfl) (by kernel_rfl)) ?_
    refine wpList_nil ?_
    refine hK' _ _ (Met.intro ?_)
    go_simp
    refine hJ _ _ ?_
    (repeat apply Exists.intro)
    exact ⟨⟨rfl, rfl⟩, rfl⟩
  case rest =>
    obtain ⟨rfl, rfl⟩ := hcut
    obtain ⟨hs0, hs1⟩ := statA_at k hk
    rw [hf] at hs0 hs1
    have hn := heap_alloc_new w1 (.cells statA 134)
    have hB2 : Below w.heap.size w (w1.alloc (.cells statA 134)) := hB.alloc hB.size _
    have hfz2 : (w1.alloc (.cells statA 134)).heap[w.heap.size]? = _ := (Below.heap_alloc _ _ _ (heap_lt hfz)).trans hfz
    have hlt := heap_lt hfz
    generalize w1.alloc (.cells statA 134) = w2 at *
    generalize w1.heap.size = B2 at *
    generalize hBB : w.heap.size = B at *
    have HBB := Lib.hid hBB
    have hn0 : w2.cell? ⟨B2, k * 2, none⟩ = some (.string f.1) := cell_of_blk hn _ _ hs0
    have hn1 : w2.cell? ⟨B2, k * 2 + 1, none⟩ = some (.string f.2) := cell_of_blk hn _ _ hs1
    have hb0 : w2.cell? ⟨B, 0, none⟩ = some (.string ⟨#[]⟩) := cell_of_blk hfz2 0 _ rfl
    have hb1 : w2.cell? ⟨B, 1, none⟩ = some (.string ⟨#[]⟩) := cell_of_blk hfz2 1 _ rfl
    have hz0 : w2.frozen? ⟨B, 0, none⟩ = false := frozen_of_row w2 B 0 _ _ hfz2
    have hz1 : w2.frozen? ⟨B, 1, none⟩ = false := frozen_of_row w2 B 1 _ _ hfz2
    have hkI : (k : Int) < 61 := by omega
    clear hs0 hs1 hn hfz2 hfz hB hBB hf
    go_wp2
    refine bodyPost_ret (v := .agg #[.string f.1, .string f.2]) (by simp [results, Try.results75, go_sem, hb0, hb1]) rfl ⟨rfl, ?_⟩
    rw [HBB.out]
    exact (hB2.setCell (Nat.le_refl _) _).setCell (Nat.le_refl _) _
/-- Fields that fit into memory. -/
def Fits (f : Tk.Fd) : Prop := f.1.size ≤ 140737488355328 ∧ f.2.size ≤ 140737488355328
set_option maxRecDepth 100000 in
theorem weight_any (w : World) (x y : ByteArray) (hf : Fits (x, y)) : Calls Try.prog 53 #[.agg #[.string x, .string y]] w fun e w' => e = .returned (.int .i64 (Tk.wt (x, y) : Nat)) ∧ Below w.heap.size w w' := by
  have hB : Below w.heap.size w (w.alloc (.cells #[.string x, .string y] 57)) := (Below.refl _ _).alloc (Nat.le_refl _) _
  obtain ⟨h1, h2⟩ := hf
  simp only at h1 h2
  have hs1 : IntKind.i64.wrap (32 + (x.size : Int)) = ((32 + x.size : Nat) : Int) := by rw [IntWalk.i64_in _ (by omega)]; omega
  have hs2 : IntKind.i64.wrap (((32 + x.size : Nat) : Int) + (y.size : Int)) = (Tk.wt (x, y) : Int) := by rw [IntWalk.i64_in _ (by omega)]; unfold Tk.wt; simp only; omega
  generalize Tk.wt (x, y) = W at *
  generalize 32 + x.size = q at *
  clear h1 h2
  go_enter Try.func53, Try.ntmps53
  go_wp2
  go_ret
  exact ⟨rfl, hB⟩
end Go.Proofs.Ytmjibpjnhehnnaa
