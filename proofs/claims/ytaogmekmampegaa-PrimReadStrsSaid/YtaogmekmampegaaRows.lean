/-
  No cell of these rows narrows 'for every input' (looked for: loops, veiled, ifaces, maps, wideKeys, modest, calm, conditions, laid).
  DERIVED. THE GIVEN ROWS OF THIS SEAT. 7 by the template 'for every input the law returns true; each argument reads behind the call as it read before'; 0 by the template 'total and deterministic' (their statements: YtaogmekmampegaaTotals.lean).
  GIVEN WITH THE SEED: the statements are not yours to turn. If you find one false, say at which input.
  Laid BY PROGRAM, IN A SANDBOX (cutbox-rows.mjs): the forced cells as the released guide's own fill.sh prints them over the translation aefb83fdcd821b24… (all of the seat's roots in one cut). By AI agents, Wed Nov 11 2026. No macro, syntax, notation, axiom, sorry.
-/
import Derived.Test.YtaogmekmampegaaChecked
import GoSem.Claim
import GoSem.ClaimJoined
import GoSem.ClaimMapViews
import Derived.JoinedTies
import Derived.KernelRfl
namespace Go.Proofs.Ytaogmekmampegaa
/- THE CELL 'sum', in the pinned program and in every row, IS THE sha256 OF THE DUMP (.gsa) THAT YtaogmekmampegaaProg.lean LOADS. Nothing in Lean hashes anything: it is a label: what it is worth is what the hold of that sum in a sandbox is worth. -/
noncomputable def Try.pinned : Pinned := { name := "ytaogmekmampegaa", sum := "aefb83fdcd821b248dcfb0ac906823bd6c1cca06ac5d62f35b883a79610d519c", checked := Try.checked }
namespace Rows
def none {H : Type} : Left H := { results := [], args := [] }

/-- 'ostlerlaw04.PrimInts': WHATEVER THE INPUT: true; the input reads as it did. -/
def primIntsSpec : ChangeSpec := { name := "primInts", fn := fun _ => fun
  | [d1, d2, d3] => { results := [.lit (.bool true)], args := [d1, d2, d3] }
  | _ => none }
def primIntsRow : OpenClaim := { program := "ytaogmekmampegaa", sum := "aefb83fdcd821b248dcfb0ac906823bd6c1cca06ac5d62f35b883a79610d519c", func := "ostler/ostlerlaw04.PrimInts", spec := "primInts", apart := false }
def PrimIntsSaid : Prop := primIntsRow.holds Try.pinned (OpenSpec.ofChange primIntsSpec)

/-- ITS FALSE NEIGHBOUR: 'it returns false'. Refute it at one input. -/
def primIntsWrong : ChangeSpec := { name := "primInts", fn := fun _ => fun
  | [d1, d2, d3] => { results := [.lit (.bool false)], args := [d1, d2, d3] }
  | _ => none }
def PrimIntsWrongFalsely : Prop := primIntsRow.holds Try.pinned (OpenSpec.ofChange primIntsWrong)

/-- 'ostlerlaw04.PrimReadInts': WHATEVER THE INPUT: true; the input reads as it did. -/
def primReadIntsSpec : ChangeSpec := { name := "primReadInts", fn := fun _ => fun
  | [d1, d2] => { results := [.lit (.bool true)], args := [d1, d2] }
  | _ => none }
def primReadIntsRow : OpenClaim := { program := "ytaogmekmampegaa", sum := "aefb83fdcd821b248dcfb0ac906823bd6c1cca06ac5d62f35b883a79610d519c", func := "ostler/ostlerlaw04.PrimReadInts", spec := "primReadInts", apart := false }
def PrimReadIntsSaid : Prop := primReadIntsRow.holds Try.pinned (OpenSpec.ofChange primReadIntsSpec)

/-- ITS FALSE NEIGHBOUR: 'it returns false'. Refute it at one input. -/
def primReadIntsWrong : ChangeSpec := { name := "primReadInts", fn := fun _ => fun
  | [d1, d2] => { results := [.lit (.bool false)], args := [d1, d2] }
  | _ => none }
def PrimReadIntsWrongFalsely : Prop := primReadIntsRow.holds Try.pinned (OpenSpec.ofChange primReadIntsWrong)

/-- 'ostlerlaw04.PrimStrs': WHATEVER THE INPUT: true; the input reads as it did. -/
def primStrsSpec : ChangeSpec := { name := "primStrs", fn := fun _ => fun
  | [d] => { results := [.lit (.bool true)], args := [d] }
  | _ => none }
def primStrsRow : OpenClaim := { program := "ytaogmekmampegaa", sum := "aefb83fdcd821b248dcfb0ac906823bd6c1cca06ac5d62f35b883a79610d519c", func := "ostler/ostlerlaw04.PrimStrs", spec := "primStrs", apart := false }
def PrimStrsSaid : Prop := primStrsRow.holds Try.pinned (OpenSpec.ofChange primStrsSpec)

/-- ITS FALSE NEIGHBOUR: 'it returns false'. Refute it at one input. -/
def primStrsWrong : ChangeSpec := { name := "primStrs", fn := fun _ => fun
  | [d] => { results := [.lit (.bool false)], args := [d] }
  | _ => none }
def PrimStrsWrongFalsely : Prop := primStrsRow.holds Try.pinned (OpenSpec.ofChange primStrsWrong)

/-- 'ostlerlaw04.PrimReadStrs': WHATEVER THE INPUT: true; the input reads as it did. -/
def primReadStrsSpec : ChangeSpec := { name := "primReadStrs", fn := fun _ => fun
  | [d1, d2] => { results := [.lit (.bool true)], args := [d1, d2] }
  | _ => none }
def primReadStrsRow : OpenClaim := { program := "ytaogmekmampegaa", sum := "aefb83fdcd821b248dcfb0ac906823bd6c1cca06ac5d62f35b883a79610d519c", func := "ostler/ostlerlaw04.PrimReadStrs", spec := "primReadStrs", apart := false }
def PrimReadStrsSaid : Prop := primReadStrsRow.holds Try.pinned (OpenSpec.ofChange primReadStrsSpec)

/-- ITS FALSE NEIGHBOUR: 'it returns false'. Refute it at one input. -/
def primReadStrsWrong : ChangeSpec := { name := "primReadStrs", fn := fun _ => fun
  | [d1, d2] => { results := [.lit (.bool false)], args := [d1, d2] }
  | _ => none }
def PrimReadStrsWrongFalsely : Prop := primReadStrsRow.holds Try.pinned (OpenSpec.ofChange primReadStrsWrong)

/-- 'ostlerlaw04.PrimIntBack': WHATEVER THE INPUT: true; the input reads as it did. -/
def primIntBackSpec : ChangeSpec := { name := "primIntBack", fn := fun _ => fun
  | [d1, d2, d3] => { results := [.lit (.bool true)], args := [d1, d2, d3] }
  | _ => none }
def primIntBackRow : OpenClaim := { program := "ytaogmekmampegaa", sum := "aefb83fdcd821b248dcfb0ac906823bd6c1cca06ac5d62f35b883a79610d519c", func := "ostler/ostlerlaw04.PrimIntBack", spec := "primIntBack", apart := false }
def PrimIntBackSaid : Prop := primIntBackRow.holds Try.pinned (OpenSpec.ofChange primIntBackSpec)

/-- ITS FALSE NEIGHBOUR: 'it returns false'. Refute it at one input. -/
def primIntBackWrong : ChangeSpec := { name := "primIntBack", fn := fun _ => fun
  | [d1, d2, d3] => { results := [.lit (.bool false)], args := [d1, d2, d3] }
  | _ => none }
def PrimIntBackWrongFalsely : Prop := primIntBackRow.holds Try.pinned (OpenSpec.ofChange primIntBackWrong)

/-- 'ostlerlaw04.PrimStrBack': WHATEVER THE INPUT: true; the input reads as it did. -/
def primStrBackSpec : ChangeSpec := { name := "primStrBack", fn := fun _ => fun
  | [d1, d2, d3] => { results := [.lit (.bool true)], args := [d1, d2, d3] }
  | _ => none }
def primStrBackRow : OpenClaim := { program := "ytaogmekmampegaa", sum := "aefb83fdcd821b248dcfb0ac906823bd6c1cca06ac5d62f35b883a79610d519c", func := "ostler/ostlerlaw04.PrimStrBack", spec := "primStrBack", apart := false }
def PrimStrBackSaid : Prop := primStrBackRow.holds Try.pinned (OpenSpec.ofChange primStrBackSpec)

/-- ITS FALSE NEIGHBOUR: 'it returns false'. Refute it at one input. -/
def primStrBackWrong : ChangeSpec := { name := "primStrBack", fn := fun _ => fun
  | [d1, d2, d3] => { results := [.lit (.bool false)], args := [d1, d2, d3] }
  | _ => none }
def PrimStrBackWrongFalsely : Prop := primStrBackRow.holds Try.pinned (OpenSpec.ofChange primStrBackWrong)

/-- 'ostlerlaw04.PrimShorter': WHATEVER THE INPUT: true; the input reads as it did. -/
def primShorterSpec : ChangeSpec := { name := "primShorter", fn := fun _ => fun
  | [d] => { results := [.lit (.bool true)], args := [d] }
  | _ => none }
def primShorterRow : OpenClaim := { program := "ytaogmekmampegaa", sum := "aefb83fdcd821b248dcfb0ac906823bd6c1cca06ac5d62f35b883a79610d519c", func := "ostler/ostlerlaw04.PrimShorter", spec := "primShorter", apart := false }
def PrimShorterSaid : Prop := primShorterRow.holds Try.pinned (OpenSpec.ofChange primShorterSpec)

/-- ITS FALSE NEIGHBOUR: 'it returns false'. Refute it at one input. -/
def primShorterWrong : ChangeSpec := { name := "primShorter", fn := fun _ => fun
  | [d] => { results := [.lit (.bool false)], args := [d] }
  | _ => none }
def PrimShorterWrongFalsely : Prop := primShorterRow.holds Try.pinned (OpenSpec.ofChange primShorterWrong)

/- THE SECOND FORM. 'bulk': how many values and letters a reading holds, each counted each time it is reached (what is shared counts as often as it is met; a slice's spare places count too). A statement '..UptoSaid' is the law's where the arguments, and the package variables that the reading takes, are together of bulk at most 1048576: NARROWER than '..Said'. Prove '..Said' where nothing that the law and all that it calls make is longer than what came in: it says more and counts as full. Else prove '..UptoSaid'. A law counts once. -/
mutual
def uptoBulk {H : Type} : DataW H → Nat
  | .lit (.string bytes) => bytes.length + 1
  | .lit _ => 1
  | .nil => 1
  | .ptr d => uptoBulk d + 1
  | .slice elems spare => uptoBulkAll elems + uptoBulkAll spare + 1
  | .agg parts => uptoBulkAll parts + 1
  | .iface _ d => uptoBulk d + 1
  | .map entries => uptoBulkEntries entries + 1
  | .held _ => 1
def uptoBulkAll {H : Type} : List (DataW H) → Nat
  | [] => 0
  | d :: r => uptoBulk d + uptoBulkAll r
def uptoBulkEntries {H : Type} : List (Lit × DataW H) → Nat
  | [] => 0
  | x :: r => uptoBulkEntry x + uptoBulkEntries r
def uptoBulkEntry {H : Type} : Lit × DataW H → Nat
  | (.string bytes, d) => bytes.length + uptoBulk d + 1
  | (_, d) => uptoBulk d + 1
 end
def uptoSmall : (H : Type) → List (DataW H) → Bool := fun _ ds => decide (uptoBulkAll ds ≤ 1048576)
def OpenSpec.upto (s : _root_.Go.ChangeSpec) : _root_.Go.OpenSpec := { _root_.Go.OpenSpec.ofChange s with cond := some uptoSmall }

/-- 'ostlerlaw04.PrimInts', WHERE WHAT IT READS IS OF BULK AT MOST 1048576: true; the input reads as it did. -/
def primIntsUptoRow : OpenClaim := { program := "ytaogmekmampegaa", sum := "aefb83fdcd821b248dcfb0ac906823bd6c1cca06ac5d62f35b883a79610d519c", func := "ostler/ostlerlaw04.PrimInts", spec := "primInts", apart := false, narrowed := true }
def PrimIntsUptoSaid : Prop := primIntsUptoRow.holds Try.pinned (OpenSpec.upto primIntsSpec)

/-- 'ostlerlaw04.PrimReadInts', WHERE WHAT IT READS IS OF BULK AT MOST 1048576: true; the input reads as it did. -/
def primReadIntsUptoRow : OpenClaim := { program := "ytaogmekmampegaa", sum := "aefb83fdcd821b248dcfb0ac906823bd6c1cca06ac5d62f35b883a79610d519c", func := "ostler/ostlerlaw04.PrimReadInts", spec := "primReadInts", apart := false, narrowed := true }
def PrimReadIntsUptoSaid : Prop := primReadIntsUptoRow.holds Try.pinned (OpenSpec.upto primReadIntsSpec)

/-- 'ostlerlaw04.PrimStrs', WHERE WHAT IT READS IS OF BULK AT MOST 1048576: true; the input reads as it did. -/
def primStrsUptoRow : OpenClaim := { program := "ytaogmekmampegaa", sum := "aefb83fdcd821b248dcfb0ac906823bd6c1cca06ac5d62f35b883a79610d519c", func := "ostler/ostlerlaw04.PrimStrs", spec := "primStrs", apart := false, narrowed := true }
def PrimStrsUptoSaid : Prop := primStrsUptoRow.holds Try.pinned (OpenSpec.upto primStrsSpec)

/-- 'ostlerlaw04.PrimReadStrs', WHERE WHAT IT READS IS OF BULK AT MOST 1048576: true; the input reads as it did. -/
def primReadStrsUptoRow : OpenClaim := { program := "ytaogmekmampegaa", sum := "aefb83fdcd821b248dcfb0ac906823bd6c1cca06ac5d62f35b883a79610d519c", func := "ostler/ostlerlaw04.PrimReadStrs", spec := "primReadStrs", apart := false, narrowed := true }
def PrimReadStrsUptoSaid : Prop := primReadStrsUptoRow.holds Try.pinned (OpenSpec.upto primReadStrsSpec)

/-- 'ostlerlaw04.PrimIntBack', WHERE WHAT IT READS IS OF BULK AT MOST 1048576: true; the input reads as it did. -/
def primIntBackUptoRow : OpenClaim := { program := "ytaogmekmampegaa", sum := "aefb83fdcd821b248dcfb0ac906823bd6c1cca06ac5d62f35b883a79610d519c", func := "ostler/ostlerlaw04.PrimIntBack", spec := "primIntBack", apart := false, narrowed := true }
def PrimIntBackUptoSaid : Prop := primIntBackUptoRow.holds Try.pinned (OpenSpec.upto primIntBackSpec)

/-- 'ostlerlaw04.PrimStrBack', WHERE WHAT IT READS IS OF BULK AT MOST 1048576: true; the input reads as it did. -/
def primStrBackUptoRow : OpenClaim := { program := "ytaogmekmampegaa", sum := "aefb83fdcd821b248dcfb0ac906823bd6c1cca06ac5d62f35b883a79610d519c", func := "ostler/ostlerlaw04.PrimStrBack", spec := "primStrBack", apart := false, narrowed := true }
def PrimStrBackUptoSaid : Prop := primStrBackUptoRow.holds Try.pinned (OpenSpec.upto primStrBackSpec)

/-- 'ostlerlaw04.PrimShorter', WHERE WHAT IT READS IS OF BULK AT MOST 1048576: true; the input reads as it did. -/
def primShorterUptoRow : OpenClaim := { program := "ytaogmekmampegaa", sum := "aefb83fdcd821b248dcfb0ac906823bd6c1cca06ac5d62f35b883a79610d519c", func := "ostler/ostlerlaw04.PrimShorter", spec := "primShorter", apart := false, narrowed := true }
def PrimShorterUptoSaid : Prop := primShorterUptoRow.holds Try.pinned (OpenSpec.upto primShorterSpec)

end Rows
end Go.Proofs.Ytaogmekmampegaa
