/- The statement TableRingsUptoSaid: for every input of bulk at most the given bound the law answers true and leaves its arguments as they were. -/
import Derived.Test.YtjdobemljghkbaaRows
import Derived.Test.YtjdobemljghkbaaRw
import Derived.WalkKit
import Derived.ProofKit
import Derived.OpenShut
import Derived.ShutString
import Derived.ChangeOld
import Derived.Below
import Derived.SizedLaws
import Derived.SliceStrings
import Derived.Deep.CondSized
namespace Go.Proofs.Ytjdobemljghkbaa.tableRingsupto
open Go.ChangeShapes Go.WideShapes Go.ChangeAt Go.RowKit
open Go.ChangeMaps (open_string shut_string)
set_option linter.unusedVariables false

theorem bulk_len {H : Type} (l : List (DataW H)) : l.length ≤ Rows.uptoBulkAll l := by
  induction l with
  | nil => exact Nat.zero_le _
  | cons d r ih =>
    have h1 : 1 ≤ Rows.uptoBulk d := by
      cases d with
      | lit x => cases x <;> simp [Rows.uptoBulk]
      | _ => simp [Rows.uptoBulk]
    rw [Rows.uptoBulkAll, List.length_cons]
    omega
theorem own : ownKnob Try.prog.godebug = none := by kernel_rfl
theorem laidOut : laidOutB Try.prog = true := by kernel_rfl

set_option maxRecDepth 100000 in
theorem lifted (os : Os) (started : os.Started) (H : Type) (enc : TypeId × Value → H) (F : Stop.Interp) :
    ReturnsInHanded {} Try.checked os 4 .any ((Rows.OpenSpec.upto Rows.tableRingsSpec).pre6 enc Try.prog Try.f4 Rows.tableRingsUptoRow.domain false) (((Rows.OpenSpec.upto Rows.tableRingsSpec).at F).post enc Try.prog Try.f4 false true false false) := by
  refine returnsInHanded_of_cond_sized (C := Try.checked) (s := Rows.OpenSpec.upto Rows.tableRingsSpec) (k := Rows.uptoSmall) rfl own started (by kernel_rfl) Try.func4
    (OpenSpec.witness (enc := enc) (C := Try.checked) (s := Rows.OpenSpec.upto Rows.tableRingsSpec) (k := Rows.uptoSmall) rfl false ⟨#[], #[.slice none 0 0], []⟩ 8 (by kernel_rfl) (by kernel_rfl) (by kernel_rfl)
      (x := ([.nil], [], [])) (by kernel_rfl) rfl (by kernel_rfl)) ?_
  intro W base args ds gs before hval0 hW hcnd hk0 hsz0 _
  have hsz : (DataW.weightsEach Try.prog (Try.f4.params.toList ++ Rows.tableRingsSpec.plain.varTypes Try.prog) (ds ++ gs)).all (· ≤ reachBytes) = true := hsz0

  have hval : ∀ (j : Nat) t v, Try.f4.params[j]? = some t → args[j]? = some v → Value.okWide Try.prog W .any base t v := hval0
  have hW' := hW
  obtain ⟨p, q, hA0, hV, rfl, hfz, hnd⟩ := hW
  have hA : DataW.TrodAll enc Try.prog W 0 (fun _ => true) true Try.f4.params.toList args.toList ds p := hA0
  rw [Try.params4] at hA hval hsz
  obtain ⟨v0, vs0, d0, ds0, p0, q0, hargs, rfl, rfl, h0, r0⟩ := trodAll_cons hA
  obtain ⟨rfl, rfl, rfl⟩ := trodAll_nil r0
  obtain rfl : args = #[v0] := by cases args; simp_all
  obtain ⟨rfl, rfl⟩ := trodVars_none hV
  have k0 := h0
  have lt0 : ∀ x ∈ p0, x.block < W.heap.size := by obtain ⟨m, hm⟩ := k0; exact DataW.trod_lt m _ _ _ hm
  obtain ⟨a0, len0, cap0, rfl⟩ := okWide_slice Try.underlying35 (hval 0 35 v0 rfl rfl)
  obtain ⟨z0, w0, y0⟩ : ∃ zs : List Int, RowOf W a0 len0 (Value.int .i64) zs ∧ (∀ n ∈ zs, (Lit.int .i64 n).wf = true) ∧ len0 ≤ maxLen ∧ len0 * 8 ≤ 140737488351232 ∧ len0 ≤ cap0 ∧ cap0 ≤ maxLen ∧ (a0 = none → cap0 = 0) ∧ (Rows.uptoBulk d0 ≤ 1048576 → len0 ≤ 1048576) := by
    obtain ⟨fuel, hf⟩ := h0
    rcases open_ints Try.underlying35 Try.underlying3 (by kernel_rfl) hf with ⟨hcs, _⟩ | ⟨x, l, c, zs, hcs, _, hl, hm, hz, hx, hcell, hwz⟩
    · simp [Value.cells] at hcs
      obtain ⟨rfl, rfl, rfl⟩ := hcs
      exact ⟨[], ⟨rfl, fun i h => absurd h (by simp)⟩, by simp, by simp, by simp, by simp, by simp, by simp, by simp⟩
    · simp [Value.cells] at hcs
      obtain ⟨rfl, rfl, rfl⟩ := hcs
      obtain ⟨hd, _⟩ := Prod.mk.inj hx
      subst hd
      have z := sized_slice hsz (j := 0) (t := 35) rfl rfl Try.underlying35
      rw [show Try.prog.bytesOf 3 = 8 from by kernel_rfl] at z
      have hz' : zs.length = cap0 := by simpa using hz
      have hlz : len0 ≤ zs.length := by rw [hz']; exact hl
      refine ⟨zs.take len0, ⟨by rw [List.length_take]; omega, fun i h => ?_⟩, fun n hn => hwz n (List.mem_of_mem_take hn), Nat.le_trans hl hm, Nat.le_trans (Nat.mul_le_mul_right _ ?_) z, hl, hm, (fun h => by cases h), fun hb => ?_⟩
      · rw [List.length_take] at h
        have hi : i < zs.length := by omega
        have h3 := hcell i hi
        refine ⟨x, rfl, by have := World.block_lt_of_cell? W _ h3; rwa [show (x.add i).block = x.block from by unfold Addr.add; split <;> rfl] at this, h3.trans ?_⟩
        simp [List.getD_eq_getElem?_getD, List.getElem?_eq_getElem hi]
      · simp [lits]; omega
      · have h1 := bulk_len (lits (H := H) .i64 (List.take len0 zs))
        have h2 : (lits (H := H) .i64 (List.take len0 zs)).length = len0 := by simp [lits]; omega
        simp only [Rows.uptoBulk] at hb
        omega
  have hbulk : Rows.uptoBulkAll (_ ++ _) ≤ 1048576 := of_decide_eq_true hk0
  simp only [List.append_nil, List.cons_append, List.nil_append, Rows.uptoBulkAll, Rows.uptoBulk] at hbulk

  clear hA0 hval0 hsz0 hsz
  refine (rings_true W a0 len0 cap0 z0 w0 (y0.2.2.2.2.2.2 (by omega))).mono fun e W' ⟨he, bel⟩ => ?_
  subst he
  exact ⟨_, rfl, _, _, _, [], _, [], hW', trodAll_mk1 (shut_bool Try.underlying4 _), (trodAll_cons_mk (Below.trod laidOut (by kernel_rfl) (of_decide_eq_true (by kernel_rfl)) k0 bel lt0) trodAll_mk0), rfl, bel.frame _, fun h => by cases h⟩

theorem over : Rows.tableRingsUptoRow.holds Try.pinned (Rows.OpenSpec.upto Rows.tableRingsSpec) :=
  OpenClaim.holds_of_cond 4 Try.f4 rfl rfl rfl rfl rfl rfl rfl ⟨rfl, rfl, rfl, rfl, rfl⟩ rfl rfl rfl rfl rfl (by kernel_rfl) Try.func4 (by kernel_rfl)
    (of_decide_eq_true (by kernel_rfl)) (by unfold Func.isWrapper; first | (rw [if_pos (by decide +kernel)]; kernel_rfl) | (rw [if_neg (by decide +kernel)]; exact ⟨rfl, rfl⟩))
    (fun os started H enc _ F => lifted os started H enc F)

/-- The statement. -/
theorem proved : Rows.TableRingsUptoSaid := over
#print axioms proved
end Go.Proofs.Ytjdobemljghkbaa.tableRingsupto
