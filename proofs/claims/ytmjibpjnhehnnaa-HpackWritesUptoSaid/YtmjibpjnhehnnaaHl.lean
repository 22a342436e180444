/- The lengths that the program lays out, as one array value. -/
import Derived.Test.YtmjibpjnhehnnaaChecked
import Derived.Test.YtmjibpjnhehnnaaWd
import Derived.Test.YtmjibpjnhehnnaaHc
import Derived.Deep.WholeRow
import Derived.Deep.MidRow
import Derived.KernelRfl
import Derived.Deep.DeepMust
import Derived.Lib.Hide
namespace Go.Proofs.Ytmjibpjnhehnnaa
open Go.RowKit

section
variable {P : Program} {ops : Array Oper} {rest : List Oper} {o : Oper} {a : Act} {w w' : World} {Q : Exit → Act → World → Prop}
/-- An operation whose run is known. -/
theorem wpList_closed (hg : o.guard = none) {v : Value} (hrun : (execOp a.eval o).run P w = .ok (.value v) w') (h : wpList P ops Q rest (a.put o.dst v) w') : wpList P ops Q (o :: rest) a w :=
  wpList_plain hg fun K hK => by
    unfold Oper.wp
    rw [hrun]
    exact hK _ _ h
theorem wpList_closed_skip (hg : o.guard = none) (hrun : (execOp a.eval o).run P w = .ok .skip w') (h : wpList P ops Q rest (a.put o.dst undef) w') : wpList P ops Q (o :: rest) a w :=
  wpList_plain hg fun K hK => by
    unfold Oper.wp
    rw [hrun]
    exact hK _ _ h
/-- A call by its contract. -/
theorem wpList_calls (hg : o.guard = none) (f : FuncId) (args : Array Value) (hrun : (execOp a.eval o).run P w = .ok (.enter f args) w)
    (hc : Calls P f args w fun e w'' => ∃ v, e = .returned v ∧ wpList P ops Q rest (a.put o.dst v) w'') : wpList P ops Q (o :: rest) a w := by
  refine wpList_plain hg fun K hK => ?_
  unfold Oper.wp
  rw [hrun, Oper.upon_enter]
  refine hc.mono fun e w'' hh => ?_
  obtain ⟨v, rfl, hv⟩ := hh
  exact hK _ _ hv
end

/-- The lengths as values. -/
def lensA : Array Value := (Hf.lens.map fun (n : Nat) => Value.int .u8 (n : Int)).toArray
def zeros8 : Array Value := (List.replicate 257 (Value.int .u8 0)).toArray

theorem zeros8_size : zeros8.size = 257 := by rw [zeros8, List.size_toArray, List.length_replicate]
theorem lensA_size : lensA.size = 257 := by simp [lensA, Hf.lens_length]
theorem lensA_one : lensA.all (·.oneCell') = true := by
  rw [Array.all_eq_true_iff_forall_mem]
  intro v hv
  simp [lensA] at hv
  obtain ⟨n, _, rfl⟩ := hv
  rfl
theorem lensA_at (s : Nat) (h : s < 257) : lensA[s]? = some (.int .u8 (Hf.len s : Int)) := by
  have hl : s < Hf.lens.length := by rw [Hf.lens_length]; exact h
  simp [lensA, Hf.len, List.getD_eq_getElem?_getD, List.getElem?_eq_getElem hl]
theorem info_row : (Try.prog.info? 121).map (·.size) = some 257 := by kernel_rfl
theorem lensA_info : (Try.prog.info? 121).map (·.size) = some lensA.size := by rw [lensA_size]; exact info_row
theorem lengths_store {o : Oper} {a : Act} {p q : Nat} (w : World) (ho : o.op = .store 121 (.tmp p) (.tmp q)) (h0 : a.eval (.tmp p) = .pointer (some ⟨w.heap.size, 0, none⟩)) (h1 : a.eval (.tmp q) = .agg lensA) :
    (execOp a.eval o).run Try.prog (w.alloc (.cells zeros8 121)) = .ok .skip (w.alloc (.cells lensA 121)) := by
  unfold execOp
  simp only [ho, h0, h1, Sem.run_bind, run_storeAt_new w 121 zeros8 lensA lensA_info (by rw [lensA_size, zeros8_size]) lensA_one, Sem.run_pure, Result.andThen_ok]

set_option maxRecDepth 100000 in
theorem lengths_any (w : World) : Calls Try.prog 79 #[] w fun e w' => e = .returned (.agg lensA) ∧ Below w.heap.size w w' := by
  go_enter Try.func79, Try.ntmps79
  refine wp_seq_k fun K1 hK1 => ?_
  refine wp_region_lit ?_
  refine wpList_closed rfl (v := .pointer (some ⟨w.heap.size, 0, none⟩)) (w' := w.alloc (.cells zeros8 121)) (by kernel_rfl) ?_
  refine wpList_nil ?_
  refine hK1 _ _ ?_
  refine wp_seq_k fun K2 hK2 => ?_
  refine wp_region_lit ?_
  refine wpList_closed rfl (v := .agg lensA) (w' := w.alloc (.cells zeros8 121)) (by kernel_rfl) ?_
  refine wpList_closed_skip rfl (w' := w.alloc (.cells lensA 121)) (lengths_store w rfl rfl rfl) ?_
  refine wpList_nil ?_
  refine hK2 _ _ ?_
  refine wp_ret ?_
  refine bodyPost_ret (v := .agg lensA) (results_cell_row (fr := (0, 0)) rfl _ _ w.heap.size 121 lensA _ rfl (heap_alloc_new w _) Try.underlying121 rfl lensA_info) rfl ⟨rfl, (Below.refl _ _).alloc (Nat.le_refl _) _⟩
end Go.Proofs.Ytmjibpjnhehnnaa
