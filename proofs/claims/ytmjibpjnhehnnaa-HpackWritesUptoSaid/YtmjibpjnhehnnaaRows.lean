/-
  No cell of these rows narrows 'for every input' (looked for: loops, veiled, ifaces, maps, wideKeys, modest, calm, conditions, laid).
  DERIVED. THE GIVEN ROWS OF THIS SEAT. 5 by the template 'for every input the law returns true; each argument reads behind the call as it read before'; 0 by the template 'total and deterministic' (their statements: YtmjibpjnhehnnaaTotals.lean).
  GIVEN WITH THE SEED: the statements are not yours to turn. If you find one false, say at which input.
  Laid BY PROGRAM, IN A SANDBOX (cutbox-rows.mjs): the forced cells as the released guide's own fill.sh prints them over the translation 683138b94dc57f6f… (all of the seat's roots in one cut). By AI agents, Wed Nov 11 2026. No macro, syntax, notation, axiom, sorry.
-/
import Derived.Test.YtmjibpjnhehnnaaChecked
import GoSem.Claim
import GoSem.ClaimJoined
import GoSem.ClaimMapViews
import Derived.JoinedTies
import Derived.KernelRfl
namespace Go.Proofs.Ytmjibpjnhehnnaa
/- THE CELL 'sum', in the pinned program and in every row, IS THE sha256 OF THE DUMP (.gsa) THAT YtmjibpjnhehnnaaProg.lean LOADS. Nothing in Lean hashes anything: it is a label: what it is worth is what the hold of that sum in a sandbox is worth. -/
noncomputable def Try.pinned : Pinned := { name := "ytmjibpjnhehnnaa", sum := "683138b94dc57f6fa0069899aedbff4687c4ff4584f513331e0d004ceeb315b1", checked := Try.checked }
namespace Rows
def none {H : Type} : Left H := { results := [], args := [] }

/-- 'ostlerlaw06.HpackBounds': WHATEVER THE INPUT: true; the input reads as it did. -/
def hpackBoundsSpec : ChangeSpec := { name := "hpackBounds", fn := fun _ => fun
  | [d1, d2] => { results := [.lit (.bool true)], args := [d1, d2] }
  | _ => none }
def hpackBoundsRow : OpenClaim := { program := "ytmjibpjnhehnnaa", sum := "683138b94dc57f6fa0069899aedbff4687c4ff4584f513331e0d004ceeb315b1", func := "ostler/ostlerlaw06.HpackBounds", spec := "hpackBounds", inPlace := ["internal/abi.NoEscape"], apart := false }
def HpackBoundsSaid : Prop := hpackBoundsRow.holds Try.pinned (OpenSpec.ofChange hpackBoundsSpec)

/-- ITS FALSE NEIGHBOUR: 'it returns false'. Refute it at one input. -/
def hpackBoundsWrong : ChangeSpec := { name := "hpackBounds", fn := fun _ => fun
  | [d1, d2] => { results := [.lit (.bool false)], args := [d1, d2] }
  | _ => none }
def HpackBoundsWrongFalsely : Prop := hpackBoundsRow.holds Try.pinned (OpenSpec.ofChange hpackBoundsWrong)

/-- 'ostlerlaw06.HpackLess': WHATEVER THE INPUT: true; the input reads as it did. -/
def hpackLessSpec : ChangeSpec := { name := "hpackLess", fn := fun _ => fun
  | [d] => { results := [.lit (.bool true)], args := [d] }
  | _ => none }
def hpackLessRow : OpenClaim := { program := "ytmjibpjnhehnnaa", sum := "683138b94dc57f6fa0069899aedbff4687c4ff4584f513331e0d004ceeb315b1", func := "ostler/ostlerlaw06.HpackLess", spec := "hpackLess", inPlace := ["internal/abi.NoEscape"], apart := false }
def HpackLessSaid : Prop := hpackLessRow.holds Try.pinned (OpenSpec.ofChange hpackLessSpec)

/-- ITS FALSE NEIGHBOUR: 'it returns false'. Refute it at one input. -/
def hpackLessWrong : ChangeSpec := { name := "hpackLess", fn := fun _ => fun
  | [d] => { results := [.lit (.bool false)], args := [d] }
  | _ => none }
def HpackLessWrongFalsely : Prop := hpackLessRow.holds Try.pinned (OpenSpec.ofChange hpackLessWrong)

/-- 'ostlerlaw06.HpackWrites': WHATEVER THE INPUT: true; the input reads as it did. -/
def hpackWritesSpec : ChangeSpec := { name := "hpackWrites", fn := fun _ => fun
  | [d] => { results := [.lit (.bool true)], args := [d] }
  | _ => none }
def hpackWritesRow : OpenClaim := { program := "ytmjibpjnhehnnaa", sum := "683138b94dc57f6fa0069899aedbff4687c4ff4584f513331e0d004ceeb315b1", func := "ostler/ostlerlaw06.HpackWrites", spec := "hpackWrites", inPlace := ["internal/abi.NoEscape"], apart := false }
def HpackWritesSaid : Prop := hpackWritesRow.holds Try.pinned (OpenSpec.ofChange hpackWritesSpec)

/-- ITS FALSE NEIGHBOUR: 'it returns false'. Refute it at one input. -/
def hpackWritesWrong : ChangeSpec := { name := "hpackWrites", fn := fun _ => fun
  | [d] => { results := [.lit (.bool false)], args := [d] }
  | _ => none }
def HpackWritesWrongFalsely : Prop := hpackWritesRow.holds Try.pinned (OpenSpec.ofChange hpackWritesWrong)

/-- 'ostlerlaw06.HpackBack': WHATEVER THE INPUT: true; the input reads as it did. -/
def hpackBackSpec : ChangeSpec := { name := "hpackBack", fn := fun _ => fun
  | [d1, d2] => { results := [.lit (.bool true)], args := [d1, d2] }
  | _ => none }
def hpackBackRow : OpenClaim := { program := "ytmjibpjnhehnnaa", sum := "683138b94dc57f6fa0069899aedbff4687c4ff4584f513331e0d004ceeb315b1", func := "ostler/ostlerlaw06.HpackBack", spec := "hpackBack", inPlace := ["internal/abi.NoEscape"], apart := false }
def HpackBackSaid : Prop := hpackBackRow.holds Try.pinned (OpenSpec.ofChange hpackBackSpec)

/-- ITS FALSE NEIGHBOUR: 'it returns false'. Refute it at one input. -/
def hpackBackWrong : ChangeSpec := { name := "hpackBack", fn := fun _ => fun
  | [d1, d2] => { results := [.lit (.bool false)], args := [d1, d2] }
  | _ => none }
def HpackBackWrongFalsely : Prop := hpackBackRow.holds Try.pinned (OpenSpec.ofChange hpackBackWrong)

/-- 'ostlerlaw06.HpackNil': WHATEVER THE INPUT: true; the input reads as it did. -/
def hpackNilSpec : ChangeSpec := { name := "hpackNil", fn := fun _ => fun
  | [d] => { results := [.lit (.bool true)], args := [d] }
  | _ => none }
def hpackNilRow : OpenClaim := { program := "ytmjibpjnhehnnaa", sum := "683138b94dc57f6fa0069899aedbff4687c4ff4584f513331e0d004ceeb315b1", func := "ostler/ostlerlaw06.HpackNil", spec := "hpackNil", inPlace := ["internal/abi.NoEscape"], apart := false }
def HpackNilSaid : Prop := hpackNilRow.holds Try.pinned (OpenSpec.ofChange hpackNilSpec)

/-- ITS FALSE NEIGHBOUR: 'it returns false'. Refute it at one input. -/
def hpackNilWrong : ChangeSpec := { name := "hpackNil", fn := fun _ => fun
  | [d] => { results := [.lit (.bool false)], args := [d] }
  | _ => none }
def HpackNilWrongFalsely : Prop := hpackNilRow.holds Try.pinned (OpenSpec.ofChange hpackNilWrong)

/- THE SECOND FORM. 'bulk': how many values and letters a reading holds, each counted each time it is reached (what is shared counts as often as it is met; a slice's spare places count too). A statement '..UptoSaid' is the law's where the arguments, and the package variables that the reading takes, are together of bulk at most 1048576: NARROWER than '..Said'. Prove '..Said' where nothing that the law and all that it calls make is longer than what came in: it says more and counts as full. Else prove '..UptoSaid'. A law counts once. -/
mutual
def uptoBulk {H : Type} : DataW H → Nat
  | .lit (.string bytes) => bytes.length + 1
  | .lit _ => 1
  | .nil => 1
  | .ptr d => uptoBulk d + 1
  | .slice elems spare => uptoBulkAll elems + uptoBulkAll spare + 1
  | .agg parts => uptoBulkAll parts + 1
  | .iface _ d => uptoBulk d + 1
  | .map entries => uptoBulkEntries entries + 1
  | .held _ => 1
def uptoBulkAll {H : Type} : List (DataW H) → Nat
  | [] => 0
  | d :: r => uptoBulk d + uptoBulkAll r
def uptoBulkEntries {H : Type} : List (Lit × DataW H) → Nat
  | [] => 0
  | x :: r => uptoBulkEntry x + uptoBulkEntries r
def uptoBulkEntry {H : Type} : Lit × DataW H → Nat
  | (.string bytes, d) => bytes.length + uptoBulk d + 1
  | (_, d) => uptoBulk d + 1
 end
def uptoSmall : (H : Type) → List (DataW H) → Bool := fun _ ds => decide (uptoBulkAll ds ≤ 1048576)
def OpenSpec.upto (s : _root_.Go.ChangeSpec) : _root_.Go.OpenSpec := { _root_.Go.OpenSpec.ofChange s with cond := some uptoSmall }

/-- 'ostlerlaw06.HpackBounds', WHERE WHAT IT READS IS OF BULK AT MOST 1048576: true; the input reads as it did. -/
def hpackBoundsUptoRow : OpenClaim := { program := "ytmjibpjnhehnnaa", sum := "683138b94dc57f6fa0069899aedbff4687c4ff4584f513331e0d004ceeb315b1", func := "ostler/ostlerlaw06.HpackBounds", spec := "hpackBounds", inPlace := ["internal/abi.NoEscape"], apart := false, narrowed := true }
def HpackBoundsUptoSaid : Prop := hpackBoundsUptoRow.holds Try.pinned (OpenSpec.upto hpackBoundsSpec)

/-- 'ostlerlaw06.HpackLess', WHERE WHAT IT READS IS OF BULK AT MOST 1048576: true; the input reads as it did. -/
def hpackLessUptoRow : OpenClaim := { program := "ytmjibpjnhehnnaa", sum := "683138b94dc57f6fa0069899aedbff4687c4ff4584f513331e0d004ceeb315b1", func := "ostler/ostlerlaw06.HpackLess", spec := "hpackLess", inPlace := ["internal/abi.NoEscape"], apart := false, narrowed := true }
def HpackLessUptoSaid : Prop := hpackLessUptoRow.holds Try.pinned (OpenSpec.upto hpackLessSpec)

/-- 'ostlerlaw06.HpackWrites', WHERE WHAT IT READS IS OF BULK AT MOST 1048576: true; the input reads as it did. -/
def hpackWritesUptoRow : OpenClaim := { program := "ytmjibpjnhehnnaa", sum := "683138b94dc57f6fa0069899aedbff4687c4ff4584f513331e0d004ceeb315b1", func := "ostler/ostlerlaw06.HpackWrites", spec := "hpackWrites", inPlace := ["internal/abi.NoEscape"], apart := false, narrowed := true }
def HpackWritesUptoSaid : Prop := hpackWritesUptoRow.holds Try.pinned (OpenSpec.upto hpackWritesSpec)

/-- 'ostlerlaw06.HpackBack', WHERE WHAT IT READS IS OF BULK AT MOST 1048576: true; the input reads as it did. -/
def hpackBackUptoRow : OpenClaim := { program := "ytmjibpjnhehnnaa", sum := "683138b94dc57f6fa0069899aedbff4687c4ff4584f513331e0d004ceeb315b1", func := "ostler/ostlerlaw06.HpackBack", spec := "hpackBack", inPlace := ["internal/abi.NoEscape"], apart := false, narrowed := true }
def HpackBackUptoSaid : Prop := hpackBackUptoRow.holds Try.pinned (OpenSpec.upto hpackBackSpec)

/-- 'ostlerlaw06.HpackNil', WHERE WHAT IT READS IS OF BULK AT MOST 1048576: true; the input reads as it did. -/
def hpackNilUptoRow : OpenClaim := { program := "ytmjibpjnhehnnaa", sum := "683138b94dc57f6fa0069899aedbff4687c4ff4584f513331e0d004ceeb315b1", func := "ostler/ostlerlaw06.HpackNil", spec := "hpackNil", inPlace := ["internal/abi.NoEscape"], apart := false, narrowed := true }
def HpackNilUptoSaid : Prop := hpackNilUptoRow.holds Try.pinned (OpenSpec.upto hpackNilSpec)

end Rows
end Go.Proofs.Ytmjibpjnhehnnaa
