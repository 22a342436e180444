/- The statement HpackBoundsUptoSaid: for every input of bulk at most the given bound the law answers true and leaves its arguments as they were. -/
import Derived.Test.YtmjibpjnhehnnaaRows
import Derived.Test.YtmjibpjnhehnnaaBo
import Derived.Test.YtmjibpjnhehnnaaBk
import Derived.WalkKit
import Derived.ProofKit
import Derived.OpenShut
import Derived.ShutString
import Derived.ChangeOld
import Derived.Below
import Derived.SizedLaws
import Derived.SliceStrings
import Derived.Deep.CondSized
namespace Go.Proofs.Ytmjibpjnhehnnaa.hpackBoundsupto
open Go.ChangeShapes Go.WideShapes Go.ChangeAt Go.RowKit
open Go.ChangeMaps (open_string shut_string)
set_option linter.unusedVariables false

theorem own : ownKnob Try.prog.godebug = none := by kernel_rfl
theorem laidOut : laidOutB Try.prog = true := by kernel_rfl

set_option maxRecDepth 100000 in
theorem lifted (os : Os) (started : os.Started) (H : Type) (enc : TypeId × Value → H) (F : Stop.Interp) :
    ReturnsInHanded {} Try.checked os 3 .any ((Rows.OpenSpec.upto Rows.hpackBoundsSpec).pre6 enc Try.prog Try.f3 Rows.hpackBoundsUptoRow.domain false) (((Rows.OpenSpec.upto Rows.hpackBoundsSpec).at F).post enc Try.prog Try.f3 false true false false) := by
  refine returnsInHanded_of_cond_sized (C := Try.checked) (s := Rows.OpenSpec.upto Rows.hpackBoundsSpec) (k := Rows.uptoSmall) rfl own started (by kernel_rfl) Try.func3
    (OpenSpec.witness (enc := enc) (C := Try.checked) (s := Rows.OpenSpec.upto Rows.hpackBoundsSpec) (k := Rows.uptoSmall) rfl false ⟨#[], #[.int .i64 0, .slice none 0 0], []⟩ 8 (by kernel_rfl) (by kernel_rfl) (by kernel_rfl)
      (x := ([.lit (.int .i64 0), .nil], [], [])) (by kernel_rfl) rfl (by kernel_rfl)) ?_
  intro W base args ds gs before hval0 hW hcnd hk0 hsz0 _
  have hsz : (DataW.weightsEach Try.prog (Try.f3.params.toList ++ Rows.hpackBoundsSpec.plain.varTypes Try.prog) (ds ++ gs)).all (· ≤ reachBytes) = true := hsz0

  have hval : ∀ (j : Nat) t v, Try.f3.params[j]? = some t → args[j]? = some v → Value.okWide Try.prog W .any base t v := hval0
  have hW' := hW
  obtain ⟨p, q, hA0, hV, rfl, hfz, hnd⟩ := hW
  have hA : DataW.TrodAll enc Try.prog W 0 (fun _ => true) true Try.f3.params.toList args.toList ds p := hA0
  rw [Try.params3] at hA hval hsz
  obtain ⟨v0, vs0, d0, ds0, p0, q0, hargs, rfl, rfl, h0, r0⟩ := trodAll_cons hA
  obtain ⟨v1, vs1, d1, ds1, p1, q1, rfl, rfl, rfl, h1, r1⟩ := trodAll_cons r0
  obtain ⟨rfl, rfl, rfl⟩ := trodAll_nil r1
  obtain rfl : args = #[v0, v1] := by cases args; simp_all
  obtain ⟨rfl, rfl⟩ := trodVars_none hV
  have k0 := h0
  have lt0 : ∀ x ∈ p0, x.block < W.heap.size := by obtain ⟨m, hm⟩ := k0; exact DataW.trod_lt m _ _ _ hm
  obtain ⟨a0, rfl, rfl, rfl, w0⟩ := open_int Try.underlying3 (hval 0 3 v0 rfl rfl) h0
  have k1 := h1
  have lt1 : ∀ x ∈ p1, x.block < W.heap.size := by obtain ⟨m, hm⟩ := k1; exact DataW.trod_lt m _ _ _ hm
  obtain ⟨a1, len1, cap1, rfl⟩ := okWide_slice Try.underlying22 (hval 1 22 v1 rfl rfl)
  obtain ⟨z1, w1, y1⟩ : ∃ zs : List ByteArray, RowOf W a1 len1 Value.string zs ∧ (∀ s ∈ zs, s.size ≤ maxLen) ∧ len1 ≤ maxLen ∧ len1 * 16 ≤ 140737488351232 ∧ (Rows.uptoBulk d1 ≤ 1048576 → (∀ s ∈ zs, s.size ≤ 1048576) ∧ len1 ≤ 1048576) := by
    obtain ⟨fuel, hf⟩ := h1
    rcases open_strings Try.underlying22 Try.underlying9 (by kernel_rfl) hf with ⟨hcs, _⟩ | ⟨x, l, c, zs, hcs, _, hl, hm, hz, hx, hcell, hwz⟩
    · simp [Value.cells] at hcs
      obtain ⟨rfl, rfl, rfl⟩ := hcs
      exact ⟨[], ⟨rfl, fun i h => absurd h (by simp)⟩, by simp, by simp, by simp, by simp⟩
    · simp [Value.cells] at hcs
      obtain ⟨rfl, rfl, rfl⟩ := hcs
      obtain ⟨hd, _⟩ := Prod.mk.inj hx
      subst hd
      have z := sized_slice hsz (j := 1) (t := 22) rfl rfl Try.underlying22
      rw [show Try.prog.bytesOf 9 = 16 from by kernel_rfl] at z
      have hz' : zs.length = cap1 := by simpa using hz
      have hlz : len1 ≤ zs.length := by rw [hz']; exact hl
      refine ⟨zs.take len1, ⟨by rw [List.length_take]; omega, fun i h => ?_⟩, fun n hn => hwz n (List.mem_of_mem_take hn), Nat.le_trans hl hm, Nat.le_trans (Nat.mul_le_mul_right _ ?_) z, fun hb => ?_⟩
      · rw [List.length_take] at h
        have hi : i < zs.length := by omega
        have h3 := hcell i hi
        refine ⟨x, rfl, by have := World.block_lt_of_cell? W _ h3; rwa [show (x.add i).block = x.block from by unfold Addr.add; split <;> rfl] at this, h3.trans ?_⟩
        simp [List.getD_eq_getElem?_getD, List.getElem?_eq_getElem hi]
      · simp [ChangeShapes.strs]; omega
      · simp only [Rows.uptoBulk] at hb
        have h1 := bulk_len (ChangeShapes.strs (H := H) (List.take len1 zs))
        have h2 : (ChangeShapes.strs (H := H) (List.take len1 zs)).length = len1 := by simp [ChangeShapes.strs]; omega
        refine ⟨fun s hs => ?_, by omega⟩
        have h3 := bulk_mem (l := ChangeShapes.strs (H := H) (List.take len1 zs)) (d := .lit (.string s.data.toList)) (List.mem_map.2 ⟨s, hs, rfl⟩)
        simp only [Rows.uptoBulk] at h3
        have h4 : s.data.toList.length = s.size := by rw [Array.length_toList]; rfl
        omega
  have hbulk : Rows.uptoBulkAll (_ ++ _) ≤ 1048576 := of_decide_eq_true hk0
  simp only [List.append_nil, List.cons_append, List.nil_append, Rows.uptoBulkAll, Rows.uptoBulk] at hbulk

  clear hA0 hval0 hsz0 hsz
  refine (bounds_true W a0 a1 len1 cap1 z1 w1 (y1.2.2.2 (by omega)).1 (y1.2.2.2 (by omega)).2).mono fun e W' ⟨he, bel⟩ => ?_
  subst he
  exact ⟨_, rfl, _, _, _, [], _, [], hW', trodAll_mk1 (shut_bool Try.underlying4 _), (trodAll_cons_mk (Below.trod laidOut (by kernel_rfl) (of_decide_eq_true (by kernel_rfl)) k0 bel lt0) (trodAll_cons_mk (Below.trod laidOut (by kernel_rfl) (of_decide_eq_true (by kernel_rfl)) k1 bel lt1) trodAll_mk0)), rfl, bel.frame _, fun h => by cases h⟩

theorem over : Rows.hpackBoundsUptoRow.holds Try.pinned (Rows.OpenSpec.upto Rows.hpackBoundsSpec) :=
  OpenClaim.holds_of_cond 3 Try.f3 rfl rfl rfl rfl rfl rfl rfl ⟨rfl, rfl, rfl, rfl, rfl⟩ rfl rfl rfl rfl rfl (by kernel_rfl) Try.func3 (by kernel_rfl)
    (of_decide_eq_true (by kernel_rfl)) (by unfold Func.isWrapper; first | (rw [if_pos (by decide +kernel)]; kernel_rfl) | (rw [if_neg (by decide +kernel)]; exact ⟨rfl, rfl⟩))
    (fun os started H enc _ F => lifted os started H enc F)

/-- The statement. -/
theorem proved : Rows.HpackBoundsUptoSaid := over
#print axioms proved
end Go.Proofs.Ytmjibpjnhehnnaa.hpackBoundsupto
