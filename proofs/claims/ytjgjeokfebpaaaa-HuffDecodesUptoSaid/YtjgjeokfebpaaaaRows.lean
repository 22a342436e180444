/-
  No cell of these rows narrows 'for every input' (looked for: loops, veiled, ifaces, maps, wideKeys, modest, calm, conditions, laid).
  DERIVED. THE GIVEN ROWS OF THIS SEAT. 6 by the template 'for every input the law returns true; each argument reads behind the call as it read before'; 0 by the template 'total and deterministic' (their statements: YtjgjeokfebpaaaaTotals.lean).
  GIVEN WITH THE SEED: the statements are not yours to turn. If you find one false, say at which input.
  Laid BY PROGRAM, IN A SANDBOX (cutbox-rows.mjs): the forced cells as the released guide's own fill.sh prints them over the translation 2149d63b34987cd0… (all of the seat's roots in one cut). By AI agents, Wed Nov 11 2026. No macro, syntax, notation, axiom, sorry.
-/
import Derived.Test.YtjgjeokfebpaaaaChecked
import GoSem.Claim
import GoSem.ClaimJoined
import GoSem.ClaimMapViews
import Derived.JoinedTies
import Derived.KernelRfl
namespace Go.Proofs.Ytjgjeokfebpaaaa
/- THE CELL 'sum', in the pinned program and in every row, IS THE sha256 OF THE DUMP (.gsa) THAT YtjgjeokfebpaaaaProg.lean LOADS. Nothing in Lean hashes anything: it is a label: what it is worth is what the hold of that sum in a sandbox is worth. -/
noncomputable def Try.pinned : Pinned := { name := "ytjgjeokfebpaaaa", sum := "2149d63b34987cd009ef41d5c0ec05bbcea8efe0e972a4add52abe9badf6771d", checked := Try.checked }
namespace Rows
def none {H : Type} : Left H := { results := [], args := [] }

/-- 'ostlerlaw03.HuffEncodes': WHATEVER THE INPUT: true; the input reads as it did. -/
def huffEncodesSpec : ChangeSpec := { name := "huffEncodes", fn := fun _ => fun
  | [d] => { results := [.lit (.bool true)], args := [d] }
  | _ => none }
def huffEncodesRow : OpenClaim := { program := "ytjgjeokfebpaaaa", sum := "2149d63b34987cd009ef41d5c0ec05bbcea8efe0e972a4add52abe9badf6771d", func := "ostler/ostlerlaw03.HuffEncodes", spec := "huffEncodes", apart := false }
def HuffEncodesSaid : Prop := huffEncodesRow.holds Try.pinned (OpenSpec.ofChange huffEncodesSpec)

/-- ITS FALSE NEIGHBOUR: 'it returns false'. Refute it at one input. -/
def huffEncodesWrong : ChangeSpec := { name := "huffEncodes", fn := fun _ => fun
  | [d] => { results := [.lit (.bool false)], args := [d] }
  | _ => none }
def HuffEncodesWrongFalsely : Prop := huffEncodesRow.holds Try.pinned (OpenSpec.ofChange huffEncodesWrong)

/-- 'ostlerlaw03.HuffDecodes': WHATEVER THE INPUT: true; the input reads as it did. -/
def huffDecodesSpec : ChangeSpec := { name := "huffDecodes", fn := fun _ => fun
  | [d1, d2] => { results := [.lit (.bool true)], args := [d1, d2] }
  | _ => none }
def huffDecodesRow : OpenClaim := { program := "ytjgjeokfebpaaaa", sum := "2149d63b34987cd009ef41d5c0ec05bbcea8efe0e972a4add52abe9badf6771d", func := "ostler/ostlerlaw03.HuffDecodes", spec := "huffDecodes", apart := false }
def HuffDecodesSaid : Prop := huffDecodesRow.holds Try.pinned (OpenSpec.ofChange huffDecodesSpec)

/-- ITS FALSE NEIGHBOUR: 'it returns false'. Refute it at one input. -/
def huffDecodesWrong : ChangeSpec := { name := "huffDecodes", fn := fun _ => fun
  | [d1, d2] => { results := [.lit (.bool false)], args := [d1, d2] }
  | _ => none }
def HuffDecodesWrongFalsely : Prop := huffDecodesRow.holds Try.pinned (OpenSpec.ofChange huffDecodesWrong)

/-- 'ostlerlaw03.HuffBack': WHATEVER THE INPUT: true; the input reads as it did. -/
def huffBackSpec : ChangeSpec := { name := "huffBack", fn := fun _ => fun
  | [d1, d2] => { results := [.lit (.bool true)], args := [d1, d2] }
  | _ => none }
def huffBackRow : OpenClaim := { program := "ytjgjeokfebpaaaa", sum := "2149d63b34987cd009ef41d5c0ec05bbcea8efe0e972a4add52abe9badf6771d", func := "ostler/ostlerlaw03.HuffBack", spec := "huffBack", apart := false }
def HuffBackSaid : Prop := huffBackRow.holds Try.pinned (OpenSpec.ofChange huffBackSpec)

/-- ITS FALSE NEIGHBOUR: 'it returns false'. Refute it at one input. -/
def huffBackWrong : ChangeSpec := { name := "huffBack", fn := fun _ => fun
  | [d1, d2] => { results := [.lit (.bool false)], args := [d1, d2] }
  | _ => none }
def HuffBackWrongFalsely : Prop := huffBackRow.holds Try.pinned (OpenSpec.ofChange huffBackWrong)

/-- 'ostlerlaw03.HuffThere': WHATEVER THE INPUT: true; the input reads as it did. -/
def huffThereSpec : ChangeSpec := { name := "huffThere", fn := fun _ => fun
  | [d] => { results := [.lit (.bool true)], args := [d] }
  | _ => none }
def huffThereRow : OpenClaim := { program := "ytjgjeokfebpaaaa", sum := "2149d63b34987cd009ef41d5c0ec05bbcea8efe0e972a4add52abe9badf6771d", func := "ostler/ostlerlaw03.HuffThere", spec := "huffThere", apart := false }
def HuffThereSaid : Prop := huffThereRow.holds Try.pinned (OpenSpec.ofChange huffThereSpec)

/-- ITS FALSE NEIGHBOUR: 'it returns false'. Refute it at one input. -/
def huffThereWrong : ChangeSpec := { name := "huffThere", fn := fun _ => fun
  | [d] => { results := [.lit (.bool false)], args := [d] }
  | _ => none }
def HuffThereWrongFalsely : Prop := huffThereRow.holds Try.pinned (OpenSpec.ofChange huffThereWrong)

/-- 'ostlerlaw03.HuffJoins': WHATEVER THE INPUT: true; the input reads as it did. -/
def huffJoinsSpec : ChangeSpec := { name := "huffJoins", fn := fun _ => fun
  | [d1, d2] => { results := [.lit (.bool true)], args := [d1, d2] }
  | _ => none }
def huffJoinsRow : OpenClaim := { program := "ytjgjeokfebpaaaa", sum := "2149d63b34987cd009ef41d5c0ec05bbcea8efe0e972a4add52abe9badf6771d", func := "ostler/ostlerlaw03.HuffJoins", spec := "huffJoins", apart := false }
def HuffJoinsSaid : Prop := huffJoinsRow.holds Try.pinned (OpenSpec.ofChange huffJoinsSpec)

/-- ITS FALSE NEIGHBOUR: 'it returns false'. Refute it at one input. -/
def huffJoinsWrong : ChangeSpec := { name := "huffJoins", fn := fun _ => fun
  | [d1, d2] => { results := [.lit (.bool false)], args := [d1, d2] }
  | _ => none }
def HuffJoinsWrongFalsely : Prop := huffJoinsRow.holds Try.pinned (OpenSpec.ofChange huffJoinsWrong)

/-- 'ostlerlaw03.HuffTorn': WHATEVER THE INPUT: true; the input reads as it did. -/
def huffTornSpec : ChangeSpec := { name := "huffTorn", fn := fun _ => fun
  | [d1, d2] => { results := [.lit (.bool true)], args := [d1, d2] }
  | _ => none }
def huffTornRow : OpenClaim := { program := "ytjgjeokfebpaaaa", sum := "2149d63b34987cd009ef41d5c0ec05bbcea8efe0e972a4add52abe9badf6771d", func := "ostler/ostlerlaw03.HuffTorn", spec := "huffTorn", apart := false }
def HuffTornSaid : Prop := huffTornRow.holds Try.pinned (OpenSpec.ofChange huffTornSpec)

/-- ITS FALSE NEIGHBOUR: 'it returns false'. Refute it at one input. -/
def huffTornWrong : ChangeSpec := { name := "huffTorn", fn := fun _ => fun
  | [d1, d2] => { results := [.lit (.bool false)], args := [d1, d2] }
  | _ => none }
def HuffTornWrongFalsely : Prop := huffTornRow.holds Try.pinned (OpenSpec.ofChange huffTornWrong)

/- THE SECOND FORM. 'bulk': how many values and letters a reading holds, each counted each time it is reached (what is shared counts as often as it is met; a slice's spare places count too). A statement '..UptoSaid' is the law's where the arguments, and the package variables that the reading takes, are together of bulk at most 1048576: NARROWER than '..Said'. Prove '..Said' where nothing that the law and all that it calls make is longer than what came in: it says more and counts as full. Else prove '..UptoSaid'. A law counts once. -/
mutual
def uptoBulk {H : Type} : DataW H → Nat
  | .lit (.string bytes) => bytes.length + 1
  | .lit _ => 1
  | .nil => 1
  | .ptr d => uptoBulk d + 1
  | .slice elems spare => uptoBulkAll elems + uptoBulkAll spare + 1
  | .agg parts => uptoBulkAll parts + 1
  | .iface _ d => uptoBulk d + 1
  | .map entries => uptoBulkEntries entries + 1
  | .held _ => 1
def uptoBulkAll {H : Type} : List (DataW H) → Nat
  | [] => 0
  | d :: r => uptoBulk d + uptoBulkAll r
def uptoBulkEntries {H : Type} : List (Lit × DataW H) → Nat
  | [] => 0
  | x :: r => uptoBulkEntry x + uptoBulkEntries r
def uptoBulkEntry {H : Type} : Lit × DataW H → Nat
  | (.string bytes, d) => bytes.length + uptoBulk d + 1
  | (_, d) => uptoBulk d + 1
 end
def uptoSmall : (H : Type) → List (DataW H) → Bool := fun _ ds => decide (uptoBulkAll ds ≤ 1048576)
def OpenSpec.upto (s : _root_.Go.ChangeSpec) : _root_.Go.OpenSpec := { _root_.Go.OpenSpec.ofChange s with cond := some uptoSmall }

/-- 'ostlerlaw03.HuffEncodes', WHERE WHAT IT READS IS OF BULK AT MOST 1048576: true; the input reads as it did. -/
def huffEncodesUptoRow : OpenClaim := { program := "ytjgjeokfebpaaaa", sum := "2149d63b34987cd009ef41d5c0ec05bbcea8efe0e972a4add52abe9badf6771d", func := "ostler/ostlerlaw03.HuffEncodes", spec := "huffEncodes", apart := false, narrowed := true }
def HuffEncodesUptoSaid : Prop := huffEncodesUptoRow.holds Try.pinned (OpenSpec.upto huffEncodesSpec)

/-- 'ostlerlaw03.HuffDecodes', WHERE WHAT IT READS IS OF BULK AT MOST 1048576: true; the input reads as it did. -/
def huffDecodesUptoRow : OpenClaim := { program := "ytjgjeokfebpaaaa", sum := "2149d63b34987cd009ef41d5c0ec05bbcea8efe0e972a4add52abe9badf6771d", func := "ostler/ostlerlaw03.HuffDecodes", spec := "huffDecodes", apart := false, narrowed := true }
def HuffDecodesUptoSaid : Prop := huffDecodesUptoRow.holds Try.pinned (OpenSpec.upto huffDecodesSpec)

/-- 'ostlerlaw03.HuffBack', WHERE WHAT IT READS IS OF BULK AT MOST 1048576: true; the input reads as it did. -/
def huffBackUptoRow : OpenClaim := { program := "ytjgjeokfebpaaaa", sum := "2149d63b34987cd009ef41d5c0ec05bbcea8efe0e972a4add52abe9badf6771d", func := "ostler/ostlerlaw03.HuffBack", spec := "huffBack", apart := false, narrowed := true }
def HuffBackUptoSaid : Prop := huffBackUptoRow.holds Try.pinned (OpenSpec.upto huffBackSpec)

/-- 'ostlerlaw03.HuffThere', WHERE WHAT IT READS IS OF BULK AT MOST 1048576: true; the input reads as it did. -/
def huffThereUptoRow : OpenClaim := { program := "ytjgjeokfebpaaaa", sum := "2149d63b34987cd009ef41d5c0ec05bbcea8efe0e972a4add52abe9badf6771d", func := "ostler/ostlerlaw03.HuffThere", spec := "huffThere", apart := false, narrowed := true }
def HuffThereUptoSaid : Prop := huffThereUptoRow.holds Try.pinned (OpenSpec.upto huffThereSpec)

/-- 'ostlerlaw03.HuffJoins', WHERE WHAT IT READS IS OF BULK AT MOST 1048576: true; the input reads as it did. -/
def huffJoinsUptoRow : OpenClaim := { program := "ytjgjeokfebpaaaa", sum := "2149d63b34987cd009ef41d5c0ec05bbcea8efe0e972a4add52abe9badf6771d", func := "ostler/ostlerlaw03.HuffJoins", spec := "huffJoins", apart := false, narrowed := true }
def HuffJoinsUptoSaid : Prop := huffJoinsUptoRow.holds Try.pinned (OpenSpec.upto huffJoinsSpec)

/-- 'ostlerlaw03.HuffTorn', WHERE WHAT IT READS IS OF BULK AT MOST 1048576: true; the input reads as it did. -/
def huffTornUptoRow : OpenClaim := { program := "ytjgjeokfebpaaaa", sum := "2149d63b34987cd009ef41d5c0ec05bbcea8efe0e972a4add52abe9badf6771d", func := "ostler/ostlerlaw03.HuffTorn", spec := "huffTorn", apart := false, narrowed := true }
def HuffTornUptoSaid : Prop := huffTornUptoRow.holds Try.pinned (OpenSpec.upto huffTornSpec)

end Rows
end Go.Proofs.Ytjgjeokfebpaaaa
