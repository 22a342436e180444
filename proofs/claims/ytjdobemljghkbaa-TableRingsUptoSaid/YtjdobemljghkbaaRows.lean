/-
  No cell of these rows narrows 'for every input' (looked for: loops, veiled, ifaces, maps, wideKeys, modest, calm, conditions, laid).
  DERIVED. THE GIVEN ROWS OF THIS SEAT. 5 by the template 'for every input the law returns true; each argument reads behind the call as it read before'; 0 by the template 'total and deterministic' (their statements: YtjdobemljghkbaaTotals.lean).
  GIVEN WITH THE SEED: the statements are not yours to turn. If you find one false, say at which input.
  Laid BY PROGRAM, IN A SANDBOX (cutbox-rows.mjs): the forced cells as the released guide's own fill.sh prints them over the translation 66b43092b258b098… (all of the seat's roots in one cut). By AI agents, Wed Nov 11 2026. No macro, syntax, notation, axiom, sorry.
-/
import Derived.Test.YtjdobemljghkbaaChecked
import GoSem.Claim
import GoSem.ClaimJoined
import GoSem.ClaimMapViews
import Derived.JoinedTies
import Derived.KernelRfl
namespace Go.Proofs.Ytjdobemljghkbaa
/- THE CELL 'sum', in the pinned program and in every row, IS THE sha256 OF THE DUMP (.gsa) THAT YtjdobemljghkbaaProg.lean LOADS. Nothing in Lean hashes anything: it is a label: what it is worth is what the hold of that sum in a sandbox is worth. -/
noncomputable def Try.pinned : Pinned := { name := "ytjdobemljghkbaa", sum := "66b43092b258b0980ea7f5e35f83743ff4c3a148e3dba8ee4ad4c786780cf6e4", checked := Try.checked }
namespace Rows
def none {H : Type} : Left H := { results := [], args := [] }

/-- 'ostlerlaw05.TableStatic': WHATEVER THE INPUT: true; the input reads as it did. -/
def tableStaticSpec : ChangeSpec := { name := "tableStatic", fn := fun _ => fun
  | [d] => { results := [.lit (.bool true)], args := [d] }
  | _ => none }
def tableStaticRow : OpenClaim := { program := "ytjdobemljghkbaa", sum := "66b43092b258b0980ea7f5e35f83743ff4c3a148e3dba8ee4ad4c786780cf6e4", func := "ostler/ostlerlaw05.TableStatic", spec := "tableStatic", apart := false }
def TableStaticSaid : Prop := tableStaticRow.holds Try.pinned (OpenSpec.ofChange tableStaticSpec)

/-- ITS FALSE NEIGHBOUR: 'it returns false'. Refute it at one input. -/
def tableStaticWrong : ChangeSpec := { name := "tableStatic", fn := fun _ => fun
  | [d] => { results := [.lit (.bool false)], args := [d] }
  | _ => none }
def TableStaticWrongFalsely : Prop := tableStaticRow.holds Try.pinned (OpenSpec.ofChange tableStaticWrong)

/-- 'ostlerlaw05.TableRings': WHATEVER THE INPUT: true; the input reads as it did. -/
def tableRingsSpec : ChangeSpec := { name := "tableRings", fn := fun _ => fun
  | [d] => { results := [.lit (.bool true)], args := [d] }
  | _ => none }
def tableRingsRow : OpenClaim := { program := "ytjdobemljghkbaa", sum := "66b43092b258b0980ea7f5e35f83743ff4c3a148e3dba8ee4ad4c786780cf6e4", func := "ostler/ostlerlaw05.TableRings", spec := "tableRings", apart := false }
def TableRingsSaid : Prop := tableRingsRow.holds Try.pinned (OpenSpec.ofChange tableRingsSpec)

/-- ITS FALSE NEIGHBOUR: 'it returns false'. Refute it at one input. -/
def tableRingsWrong : ChangeSpec := { name := "tableRings", fn := fun _ => fun
  | [d] => { results := [.lit (.bool false)], args := [d] }
  | _ => none }
def TableRingsWrongFalsely : Prop := tableRingsRow.holds Try.pinned (OpenSpec.ofChange tableRingsWrong)

/-- 'ostlerlaw05.TablePlays': WHATEVER THE INPUT: true; the input reads as it did. -/
def tablePlaysSpec : ChangeSpec := { name := "tablePlays", fn := fun _ => fun
  | [d1, d2] => { results := [.lit (.bool true)], args := [d1, d2] }
  | _ => none }
def tablePlaysRow : OpenClaim := { program := "ytjdobemljghkbaa", sum := "66b43092b258b0980ea7f5e35f83743ff4c3a148e3dba8ee4ad4c786780cf6e4", func := "ostler/ostlerlaw05.TablePlays", spec := "tablePlays", apart := false }
def TablePlaysSaid : Prop := tablePlaysRow.holds Try.pinned (OpenSpec.ofChange tablePlaysSpec)

/-- ITS FALSE NEIGHBOUR: 'it returns false'. Refute it at one input. -/
def tablePlaysWrong : ChangeSpec := { name := "tablePlays", fn := fun _ => fun
  | [d1, d2] => { results := [.lit (.bool false)], args := [d1, d2] }
  | _ => none }
def TablePlaysWrongFalsely : Prop := tablePlaysRow.holds Try.pinned (OpenSpec.ofChange tablePlaysWrong)

/-- 'ostlerlaw05.TableBounds': WHATEVER THE INPUT: true; the input reads as it did. -/
def tableBoundsSpec : ChangeSpec := { name := "tableBounds", fn := fun _ => fun
  | [d1, d2] => { results := [.lit (.bool true)], args := [d1, d2] }
  | _ => none }
def tableBoundsRow : OpenClaim := { program := "ytjdobemljghkbaa", sum := "66b43092b258b0980ea7f5e35f83743ff4c3a148e3dba8ee4ad4c786780cf6e4", func := "ostler/ostlerlaw05.TableBounds", spec := "tableBounds", apart := false }
def TableBoundsSaid : Prop := tableBoundsRow.holds Try.pinned (OpenSpec.ofChange tableBoundsSpec)

/-- ITS FALSE NEIGHBOUR: 'it returns false'. Refute it at one input. -/
def tableBoundsWrong : ChangeSpec := { name := "tableBounds", fn := fun _ => fun
  | [d1, d2] => { results := [.lit (.bool false)], args := [d1, d2] }
  | _ => none }
def TableBoundsWrongFalsely : Prop := tableBoundsRow.holds Try.pinned (OpenSpec.ofChange tableBoundsWrong)

/-- 'ostlerlaw05.TableNil': WHATEVER THE INPUT: true; the input reads as it did. -/
def tableNilSpec : ChangeSpec := { name := "tableNil", fn := fun _ => fun
  | [d1, d2, d3] => { results := [.lit (.bool true)], args := [d1, d2, d3] }
  | _ => none }
def tableNilRow : OpenClaim := { program := "ytjdobemljghkbaa", sum := "66b43092b258b0980ea7f5e35f83743ff4c3a148e3dba8ee4ad4c786780cf6e4", func := "ostler/ostlerlaw05.TableNil", spec := "tableNil", apart := false }
def TableNilSaid : Prop := tableNilRow.holds Try.pinned (OpenSpec.ofChange tableNilSpec)

/-- ITS FALSE NEIGHBOUR: 'it returns false'. Refute it at one input. -/
def tableNilWrong : ChangeSpec := { name := "tableNil", fn := fun _ => fun
  | [d1, d2, d3] => { results := [.lit (.bool false)], args := [d1, d2, d3] }
  | _ => none }
def TableNilWrongFalsely : Prop := tableNilRow.holds Try.pinned (OpenSpec.ofChange tableNilWrong)

/- THE SECOND FORM. 'bulk': how many values and letters a reading holds, each counted each time it is reached (what is shared counts as often as it is met; a slice's spare places count too). A statement '..UptoSaid' is the law's where the arguments, and the package variables that the reading takes, are together of bulk at most 1048576: NARROWER than '..Said'. Prove '..Said' where nothing that the law and all that it calls make is longer than what came in: it says more and counts as full. Else prove '..UptoSaid'. A law counts once. -/
mutual
def uptoBulk {H : Type} : DataW H → Nat
  | .lit (.string bytes) => bytes.length + 1
  | .lit _ => 1
  | .nil => 1
  | .ptr d => uptoBulk d + 1
  | .slice elems spare => uptoBulkAll elems + uptoBulkAll spare + 1
  | .agg parts => uptoBulkAll parts + 1
  | .iface _ d => uptoBulk d + 1
  | .map entries => uptoBulkEntries entries + 1
  | .held _ => 1
def uptoBulkAll {H : Type} : List (DataW H) → Nat
  | [] => 0
  | d :: r => uptoBulk d + uptoBulkAll r
def uptoBulkEntries {H : Type} : List (Lit × DataW H) → Nat
  | [] => 0
  | x :: r => uptoBulkEntry x + uptoBulkEntries r
def uptoBulkEntry {H : Type} : Lit × DataW H → Nat
  | (.string bytes, d) => bytes.length + uptoBulk d + 1
  | (_, d) => uptoBulk d + 1
 end
def uptoSmall : (H : Type) → List (DataW H) → Bool := fun _ ds => decide (uptoBulkAll ds ≤ 1048576)
def OpenSpec.upto (s : _root_.Go.ChangeSpec) : _root_.Go.OpenSpec := { _root_.Go.OpenSpec.ofChange s with cond := some uptoSmall }

/-- 'ostlerlaw05.TableStatic', WHERE WHAT IT READS IS OF BULK AT MOST 1048576: true; the input reads as it did. -/
def tableStaticUptoRow : OpenClaim := { program := "ytjdobemljghkbaa", sum := "66b43092b258b0980ea7f5e35f83743ff4c3a148e3dba8ee4ad4c786780cf6e4", func := "ostler/ostlerlaw05.TableStatic", spec := "tableStatic", apart := false, narrowed := true }
def TableStaticUptoSaid : Prop := tableStaticUptoRow.holds Try.pinned (OpenSpec.upto tableStaticSpec)

/-- 'ostlerlaw05.TableRings', WHERE WHAT IT READS IS OF BULK AT MOST 1048576: true; the input reads as it did. -/
def tableRingsUptoRow : OpenClaim := { program := "ytjdobemljghkbaa", sum := "66b43092b258b0980ea7f5e35f83743ff4c3a148e3dba8ee4ad4c786780cf6e4", func := "ostler/ostlerlaw05.TableRings", spec := "tableRings", apart := false, narrowed := true }
def TableRingsUptoSaid : Prop := tableRingsUptoRow.holds Try.pinned (OpenSpec.upto tableRingsSpec)

/-- 'ostlerlaw05.TablePlays', WHERE WHAT IT READS IS OF BULK AT MOST 1048576: true; the input reads as it did. -/
def tablePlaysUptoRow : OpenClaim := { program := "ytjdobemljghkbaa", sum := "66b43092b258b0980ea7f5e35f83743ff4c3a148e3dba8ee4ad4c786780cf6e4", func := "ostler/ostlerlaw05.TablePlays", spec := "tablePlays", apart := false, narrowed := true }
def TablePlaysUptoSaid : Prop := tablePlaysUptoRow.holds Try.pinned (OpenSpec.upto tablePlaysSpec)

/-- 'ostlerlaw05.TableBounds', WHERE WHAT IT READS IS OF BULK AT MOST 1048576: true; the input reads as it did. -/
def tableBoundsUptoRow : OpenClaim := { program := "ytjdobemljghkbaa", sum := "66b43092b258b0980ea7f5e35f83743ff4c3a148e3dba8ee4ad4c786780cf6e4", func := "ostler/ostlerlaw05.TableBounds", spec := "tableBounds", apart := false, narrowed := true }
def TableBoundsUptoSaid : Prop := tableBoundsUptoRow.holds Try.pinned (OpenSpec.upto tableBoundsSpec)

/-- 'ostlerlaw05.TableNil', WHERE WHAT IT READS IS OF BULK AT MOST 1048576: true; the input reads as it did. -/
def tableNilUptoRow : OpenClaim := { program := "ytjdobemljghkbaa", sum := "66b43092b258b0980ea7f5e35f83743ff4c3a148e3dba8ee4ad4c786780cf6e4", func := "ostler/ostlerlaw05.TableNil", spec := "tableNil", apart := false, narrowed := true }
def TableNilUptoSaid : Prop := tableNilUptoRow.holds Try.pinned (OpenSpec.upto tableNilSpec)

end Rows
end Go.Proofs.Ytjdobemljghkbaa
