/-
  No cell of these rows narrows 'for every input' (looked for: loops, veiled, ifaces, maps, wideKeys, modest, calm, conditions, laid).
  DERIVED. THE GIVEN ROWS OF THIS SEAT. 7 by the template 'for every input the law returns true; each argument reads behind the call as it read before'; 0 by the template 'total and deterministic' (their statements: YthpbkkjggnejcaaTotals.lean).
  GIVEN WITH THE SEED: the statements are not yours to turn. If you find one false, say at which input.
  Laid BY PROGRAM, IN A SANDBOX (cutbox-rows.mjs): the forced cells as the released guide's own fill.sh prints them over the translation 44c609358ba79cc2… (all of the seat's roots in one cut). By AI agents, Wed Nov 11 2026. No macro, syntax, notation, axiom, sorry.
-/
import Derived.Test.YthpbkkjggnejcaaChecked
import GoSem.Claim
import GoSem.ClaimJoined
import GoSem.ClaimMapViews
import Derived.JoinedTies
import Derived.KernelRfl
namespace Go.Proofs.Ythpbkkjggnejcaa
/- THE CELL 'sum', in the pinned program and in every row, IS THE sha256 OF THE DUMP (.gsa) THAT YthpbkkjggnejcaaProg.lean LOADS. Nothing in Lean hashes anything: it is a label: what it is worth is what the hold of that sum in a sandbox is worth. -/
noncomputable def Try.pinned : Pinned := { name := "ythpbkkjggnejcaa", sum := "44c609358ba79cc23ec7bb82f806c10361db7173062aa2f81d254f314e1b6c26", checked := Try.checked }
namespace Rows
def none {H : Type} : Left H := { results := [], args := [] }

/-- 'butterylaw11.PartsCut': WHATEVER THE INPUT: true; the input reads as it did. -/
def partsCutSpec : ChangeSpec := { name := "partsCut", fn := fun _ => fun
  | [d1, d2] => { results := [.lit (.bool true)], args := [d1, d2] }
  | _ => none }
def partsCutRow : OpenClaim := { program := "ythpbkkjggnejcaa", sum := "44c609358ba79cc23ec7bb82f806c10361db7173062aa2f81d254f314e1b6c26", func := "buttery/butterylaw11.PartsCut", spec := "partsCut", unfollowed := true, recurses := true, plainKeys := false, apart := false }
def PartsCutSaid : Prop := partsCutRow.holds Try.pinned (OpenSpec.ofChange partsCutSpec)

/-- ITS FALSE NEIGHBOUR: 'it returns false'. Refute it at one input. -/
def partsCutWrong : ChangeSpec := { name := "partsCut", fn := fun _ => fun
  | [d1, d2] => { results := [.lit (.bool false)], args := [d1, d2] }
  | _ => none }
def PartsCutWrongFalsely : Prop := partsCutRow.holds Try.pinned (OpenSpec.ofChange partsCutWrong)

/-- 'butterylaw11.PartsForms': WHATEVER THE INPUT: true; the input reads as it did. -/
def partsFormsSpec : ChangeSpec := { name := "partsForms", fn := fun _ => fun
  | [] => { results := [.lit (.bool true)], args := [] }
  | _ => none }
def partsFormsRow : OpenClaim := { program := "ythpbkkjggnejcaa", sum := "44c609358ba79cc23ec7bb82f806c10361db7173062aa2f81d254f314e1b6c26", func := "buttery/butterylaw11.PartsForms", spec := "partsForms", unfollowed := true, recurses := true, plainKeys := false, apart := false }
def PartsFormsSaid : Prop := partsFormsRow.holds Try.pinned (OpenSpec.ofChange partsFormsSpec)

/-- ITS FALSE NEIGHBOUR: 'it returns false'. Refute it at one input. -/
def partsFormsWrong : ChangeSpec := { name := "partsForms", fn := fun _ => fun
  | [] => { results := [.lit (.bool false)], args := [] }
  | _ => none }
def PartsFormsWrongFalsely : Prop := partsFormsRow.holds Try.pinned (OpenSpec.ofChange partsFormsWrong)

/-- 'butterylaw11.PartsTake': WHATEVER THE INPUT: true; the input reads as it did. -/
def partsTakeSpec : ChangeSpec := { name := "partsTake", fn := fun _ => fun
  | [d] => { results := [.lit (.bool true)], args := [d] }
  | _ => none }
def partsTakeRow : OpenClaim := { program := "ythpbkkjggnejcaa", sum := "44c609358ba79cc23ec7bb82f806c10361db7173062aa2f81d254f314e1b6c26", func := "buttery/butterylaw11.PartsTake", spec := "partsTake", unfollowed := true, recurses := true, plainKeys := false, apart := false }
def PartsTakeSaid : Prop := partsTakeRow.holds Try.pinned (OpenSpec.ofChange partsTakeSpec)

/-- ITS FALSE NEIGHBOUR: 'it returns false'. Refute it at one input. -/
def partsTakeWrong : ChangeSpec := { name := "partsTake", fn := fun _ => fun
  | [d] => { results := [.lit (.bool false)], args := [d] }
  | _ => none }
def PartsTakeWrongFalsely : Prop := partsTakeRow.holds Try.pinned (OpenSpec.ofChange partsTakeWrong)

/-- 'butterylaw11.PartsNames': WHATEVER THE INPUT: true; the input reads as it did. -/
def partsNamesSpec : ChangeSpec := { name := "partsNames", fn := fun _ => fun
  | [] => { results := [.lit (.bool true)], args := [] }
  | _ => none }
def partsNamesRow : OpenClaim := { program := "ythpbkkjggnejcaa", sum := "44c609358ba79cc23ec7bb82f806c10361db7173062aa2f81d254f314e1b6c26", func := "buttery/butterylaw11.PartsNames", spec := "partsNames", unfollowed := true, recurses := true, plainKeys := false, apart := false }
def PartsNamesSaid : Prop := partsNamesRow.holds Try.pinned (OpenSpec.ofChange partsNamesSpec)

/-- ITS FALSE NEIGHBOUR: 'it returns false'. Refute it at one input. -/
def partsNamesWrong : ChangeSpec := { name := "partsNames", fn := fun _ => fun
  | [] => { results := [.lit (.bool false)], args := [] }
  | _ => none }
def PartsNamesWrongFalsely : Prop := partsNamesRow.holds Try.pinned (OpenSpec.ofChange partsNamesWrong)

/-- 'butterylaw11.PartsWhole': WHATEVER THE INPUT: true; the input reads as it did. -/
def partsWholeSpec : ChangeSpec := { name := "partsWhole", fn := fun _ => fun
  | [d1, d2, d3] => { results := [.lit (.bool true)], args := [d1, d2, d3] }
  | _ => none }
def partsWholeRow : OpenClaim := { program := "ythpbkkjggnejcaa", sum := "44c609358ba79cc23ec7bb82f806c10361db7173062aa2f81d254f314e1b6c26", func := "buttery/butterylaw11.PartsWhole", spec := "partsWhole", unfollowed := true, recurses := true, plainKeys := false, apart := false }
def PartsWholeSaid : Prop := partsWholeRow.holds Try.pinned (OpenSpec.ofChange partsWholeSpec)

/-- ITS FALSE NEIGHBOUR: 'it returns false'. Refute it at one input. -/
def partsWholeWrong : ChangeSpec := { name := "partsWhole", fn := fun _ => fun
  | [d1, d2, d3] => { results := [.lit (.bool false)], args := [d1, d2, d3] }
  | _ => none }
def PartsWholeWrongFalsely : Prop := partsWholeRow.holds Try.pinned (OpenSpec.ofChange partsWholeWrong)

/-- 'butterylaw11.PartsApart': WHATEVER THE INPUT: true; the input reads as it did. -/
def partsApartSpec : ChangeSpec := { name := "partsApart", fn := fun _ => fun
  | [d1, d2, d3] => { results := [.lit (.bool true)], args := [d1, d2, d3] }
  | _ => none }
def partsApartRow : OpenClaim := { program := "ythpbkkjggnejcaa", sum := "44c609358ba79cc23ec7bb82f806c10361db7173062aa2f81d254f314e1b6c26", func := "buttery/butterylaw11.PartsApart", spec := "partsApart", unfollowed := true, recurses := true, plainKeys := false, apart := false }
def PartsApartSaid : Prop := partsApartRow.holds Try.pinned (OpenSpec.ofChange partsApartSpec)

/-- ITS FALSE NEIGHBOUR: 'it returns false'. Refute it at one input. -/
def partsApartWrong : ChangeSpec := { name := "partsApart", fn := fun _ => fun
  | [d1, d2, d3] => { results := [.lit (.bool false)], args := [d1, d2, d3] }
  | _ => none }
def PartsApartWrongFalsely : Prop := partsApartRow.holds Try.pinned (OpenSpec.ofChange partsApartWrong)

/-- 'butterylaw11.PartsNothing': WHATEVER THE INPUT: true; the input reads as it did. -/
def partsNothingSpec : ChangeSpec := { name := "partsNothing", fn := fun _ => fun
  | [d1, d2, d3] => { results := [.lit (.bool true)], args := [d1, d2, d3] }
  | _ => none }
def partsNothingRow : OpenClaim := { program := "ythpbkkjggnejcaa", sum := "44c609358ba79cc23ec7bb82f806c10361db7173062aa2f81d254f314e1b6c26", func := "buttery/butterylaw11.PartsNothing", spec := "partsNothing", unfollowed := true, recurses := true, plainKeys := false, apart := false }
def PartsNothingSaid : Prop := partsNothingRow.holds Try.pinned (OpenSpec.ofChange partsNothingSpec)

/-- ITS FALSE NEIGHBOUR: 'it returns false'. Refute it at one input. -/
def partsNothingWrong : ChangeSpec := { name := "partsNothing", fn := fun _ => fun
  | [d1, d2, d3] => { results := [.lit (.bool false)], args := [d1, d2, d3] }
  | _ => none }
def PartsNothingWrongFalsely : Prop := partsNothingRow.holds Try.pinned (OpenSpec.ofChange partsNothingWrong)

/- THE SECOND FORM. 'bulk': how many values and letters a reading holds, each counted each time it is reached (what is shared counts as often as it is met; a slice's spare places count too). A statement '..UptoSaid' is the law's where the arguments, and the package variables that the reading takes, are together of bulk at most 1048576: NARROWER than '..Said'. Prove '..Said' where nothing that the law and all that it calls make is longer than what came in: it says more and counts as full. Else prove '..UptoSaid'. A law counts once. -/
mutual
def uptoBulk {H : Type} : DataW H → Nat
  | .lit (.string bytes) => bytes.length + 1
  | .lit _ => 1
  | .nil => 1
  | .ptr d => uptoBulk d + 1
  | .slice elems spare => uptoBulkAll elems + uptoBulkAll spare + 1
  | .agg parts => uptoBulkAll parts + 1
  | .iface _ d => uptoBulk d + 1
  | .map entries => uptoBulkEntries entries + 1
  | .held _ => 1
def uptoBulkAll {H : Type} : List (DataW H) → Nat
  | [] => 0
  | d :: r => uptoBulk d + uptoBulkAll r
def uptoBulkEntries {H : Type} : List (Lit × DataW H) → Nat
  | [] => 0
  | x :: r => uptoBulkEntry x + uptoBulkEntries r
def uptoBulkEntry {H : Type} : Lit × DataW H → Nat
  | (.string bytes, d) => bytes.length + uptoBulk d + 1
  | (_, d) => uptoBulk d + 1
 end
def uptoSmall : (H : Type) → List (DataW H) → Bool := fun _ ds => decide (uptoBulkAll ds ≤ 1048576)
def OpenSpec.upto (s : _root_.Go.ChangeSpec) : _root_.Go.OpenSpec := { _root_.Go.OpenSpec.ofChange s with cond := some uptoSmall }

/-- 'butterylaw11.PartsCut', WHERE WHAT IT READS IS OF BULK AT MOST 1048576: true; the input reads as it did. -/
def partsCutUptoRow : OpenClaim := { program := "ythpbkkjggnejcaa", sum := "44c609358ba79cc23ec7bb82f806c10361db7173062aa2f81d254f314e1b6c26", func := "buttery/butterylaw11.PartsCut", spec := "partsCut", unfollowed := true, recurses := true, plainKeys := false, apart := false, narrowed := true }
def PartsCutUptoSaid : Prop := partsCutUptoRow.holds Try.pinned (OpenSpec.upto partsCutSpec)

/-- 'butterylaw11.PartsForms', WHERE WHAT IT READS IS OF BULK AT MOST 1048576: true; the input reads as it did. -/
def partsFormsUptoRow : OpenClaim := { program := "ythpbkkjggnejcaa", sum := "44c609358ba79cc23ec7bb82f806c10361db7173062aa2f81d254f314e1b6c26", func := "buttery/butterylaw11.PartsForms", spec := "partsForms", unfollowed := true, recurses := true, plainKeys := false, apart := false, narrowed := true }
def PartsFormsUptoSaid : Prop := partsFormsUptoRow.holds Try.pinned (OpenSpec.upto partsFormsSpec)

/-- 'butterylaw11.PartsTake', WHERE WHAT IT READS IS OF BULK AT MOST 1048576: true; the input reads as it did. -/
def partsTakeUptoRow : OpenClaim := { program := "ythpbkkjggnejcaa", sum := "44c609358ba79cc23ec7bb82f806c10361db7173062aa2f81d254f314e1b6c26", func := "buttery/butterylaw11.PartsTake", spec := "partsTake", unfollowed := true, recurses := true, plainKeys := false, apart := false, narrowed := true }
def PartsTakeUptoSaid : Prop := partsTakeUptoRow.holds Try.pinned (OpenSpec.upto partsTakeSpec)

/-- 'butterylaw11.PartsNames', WHERE WHAT IT READS IS OF BULK AT MOST 1048576: true; the input reads as it did. -/
def partsNamesUptoRow : OpenClaim := { program := "ythpbkkjggnejcaa", sum := "44c609358ba79cc23ec7bb82f806c10361db7173062aa2f81d254f314e1b6c26", func := "buttery/butterylaw11.PartsNames", spec := "partsNames", unfollowed := true, recurses := true, plainKeys := false, apart := false, narrowed := true }
def PartsNamesUptoSaid : Prop := partsNamesUptoRow.holds Try.pinned (OpenSpec.upto partsNamesSpec)

/-- 'butterylaw11.PartsWhole', WHERE WHAT IT READS IS OF BULK AT MOST 1048576: true; the input reads as it did. -/
def partsWholeUptoRow : OpenClaim := { program := "ythpbkkjggnejcaa", sum := "44c609358ba79cc23ec7bb82f806c10361db7173062aa2f81d254f314e1b6c26", func := "buttery/butterylaw11.PartsWhole", spec := "partsWhole", unfollowed := true, recurses := true, plainKeys := false, apart := false, narrowed := true }
def PartsWholeUptoSaid : Prop := partsWholeUptoRow.holds Try.pinned (OpenSpec.upto partsWholeSpec)

/-- 'butterylaw11.PartsApart', WHERE WHAT IT READS IS OF BULK AT MOST 1048576: true; the input reads as it did. -/
def partsApartUptoRow : OpenClaim := { program := "ythpbkkjggnejcaa", sum := "44c609358ba79cc23ec7bb82f806c10361db7173062aa2f81d254f314e1b6c26", func := "buttery/butterylaw11.PartsApart", spec := "partsApart", unfollowed := true, recurses := true, plainKeys := false, apart := false, narrowed := true }
def PartsApartUptoSaid : Prop := partsApartUptoRow.holds Try.pinned (OpenSpec.upto partsApartSpec)

/-- 'butterylaw11.PartsNothing', WHERE WHAT IT READS IS OF BULK AT MOST 1048576: true; the input reads as it did. -/
def partsNothingUptoRow : OpenClaim := { program := "ythpbkkjggnejcaa", sum := "44c609358ba79cc23ec7bb82f806c10361db7173062aa2f81d254f314e1b6c26", func := "buttery/butterylaw11.PartsNothing", spec := "partsNothing", unfollowed := true, recurses := true, plainKeys := false, apart := false, narrowed := true }
def PartsNothingUptoSaid : Prop := partsNothingUptoRow.holds Try.pinned (OpenSpec.upto partsNothingSpec)

end Rows
end Go.Proofs.Ythpbkkjggnejcaa
