/-
  No cell of these rows narrows 'for every input' (looked for: loops, veiled, ifaces, maps, wideKeys, modest, calm, conditions, laid).
  DERIVED. THE GIVEN ROWS OF THIS SEAT. 6 by the template 'for every input the law returns true; each argument reads behind the call as it read before'; 0 by the template 'total and deterministic' (their statements: YtoceilgifkncoaaTotals.lean).
  GIVEN WITH THE SEED: the statements are not yours to turn. If you find one false, say at which input.
  Laid BY PROGRAM, IN A SANDBOX (cutbox-rows.mjs): the forced cells as the released guide's own fill.sh prints them over the translation 99f83cdfdc6a90b8… (all of the seat's roots in one cut). By AI agents, Wed Nov 11 2026. No macro, syntax, notation, axiom, sorry.
-/
import Derived.Test.YtoceilgifkncoaaChecked
import GoSem.Claim
import GoSem.ClaimJoined
import GoSem.ClaimMapViews
import Derived.JoinedTies
import Derived.KernelRfl
namespace Go.Proofs.Ytoceilgifkncoaa
/- THE CELL 'sum', in the pinned program and in every row, IS THE sha256 OF THE DUMP (.gsa) THAT YtoceilgifkncoaaProg.lean LOADS. Nothing in Lean hashes anything: it is a label: what it is worth is what the hold of that sum in a sandbox is worth. -/
noncomputable def Try.pinned : Pinned := { name := "ytoceilgifkncoaa", sum := "99f83cdfdc6a90b81a9ecd8fdc68ae4834d332ddf5c9e28b6b2fe536372824f1", checked := Try.checked }
namespace Rows
def none {H : Type} : Left H := { results := [], args := [] }

/-- 'butterylaw23.HandCuts': WHATEVER THE INPUT: true; the input reads as it did. -/
def handCutsSpec : ChangeSpec := { name := "handCuts", fn := fun _ => fun
  | [d1, d2] => { results := [.lit (.bool true)], args := [d1, d2] }
  | _ => none }
def handCutsRow : OpenClaim := { program := "ytoceilgifkncoaa", sum := "99f83cdfdc6a90b81a9ecd8fdc68ae4834d332ddf5c9e28b6b2fe536372824f1", func := "buttery/butterylaw23.HandCuts", spec := "handCuts", unfollowed := true, recurses := true, apart := false }
def HandCutsSaid : Prop := handCutsRow.holds Try.pinned (OpenSpec.ofChange handCutsSpec)

/-- ITS FALSE NEIGHBOUR: 'it returns false'. Refute it at one input. -/
def handCutsWrong : ChangeSpec := { name := "handCuts", fn := fun _ => fun
  | [d1, d2] => { results := [.lit (.bool false)], args := [d1, d2] }
  | _ => none }
def HandCutsWrongFalsely : Prop := handCutsRow.holds Try.pinned (OpenSpec.ofChange handCutsWrong)

/-- 'butterylaw23.HandSends': WHATEVER THE INPUT: true; the input reads as it did. -/
def handSendsSpec : ChangeSpec := { name := "handSends", fn := fun _ => fun
  | [d1, d2, d3, d4] => { results := [.lit (.bool true)], args := [d1, d2, d3, d4] }
  | _ => none }
def handSendsRow : OpenClaim := { program := "ytoceilgifkncoaa", sum := "99f83cdfdc6a90b81a9ecd8fdc68ae4834d332ddf5c9e28b6b2fe536372824f1", func := "buttery/butterylaw23.HandSends", spec := "handSends", unfollowed := true, recurses := true, apart := false }
def HandSendsSaid : Prop := handSendsRow.holds Try.pinned (OpenSpec.ofChange handSendsSpec)

/-- ITS FALSE NEIGHBOUR: 'it returns false'. Refute it at one input. -/
def handSendsWrong : ChangeSpec := { name := "handSends", fn := fun _ => fun
  | [d1, d2, d3, d4] => { results := [.lit (.bool false)], args := [d1, d2, d3, d4] }
  | _ => none }
def HandSendsWrongFalsely : Prop := handSendsRow.holds Try.pinned (OpenSpec.ofChange handSendsWrong)

/-- 'butterylaw23.HandCut': WHATEVER THE INPUT: true; the input reads as it did. -/
def handCutSpec : ChangeSpec := { name := "handCut", fn := fun _ => fun
  | [d1, d2] => { results := [.lit (.bool true)], args := [d1, d2] }
  | _ => none }
def handCutRow : OpenClaim := { program := "ytoceilgifkncoaa", sum := "99f83cdfdc6a90b81a9ecd8fdc68ae4834d332ddf5c9e28b6b2fe536372824f1", func := "buttery/butterylaw23.HandCut", spec := "handCut", unfollowed := true, recurses := true, apart := false }
def HandCutSaid : Prop := handCutRow.holds Try.pinned (OpenSpec.ofChange handCutSpec)

/-- ITS FALSE NEIGHBOUR: 'it returns false'. Refute it at one input. -/
def handCutWrong : ChangeSpec := { name := "handCut", fn := fun _ => fun
  | [d1, d2] => { results := [.lit (.bool false)], args := [d1, d2] }
  | _ => none }
def HandCutWrongFalsely : Prop := handCutRow.holds Try.pinned (OpenSpec.ofChange handCutWrong)

/-- 'butterylaw23.HandEnds': WHATEVER THE INPUT: true; the input reads as it did. -/
def handEndsSpec : ChangeSpec := { name := "handEnds", fn := fun _ => fun
  | [d1, d2, d3, d4] => { results := [.lit (.bool true)], args := [d1, d2, d3, d4] }
  | _ => none }
def handEndsRow : OpenClaim := { program := "ytoceilgifkncoaa", sum := "99f83cdfdc6a90b81a9ecd8fdc68ae4834d332ddf5c9e28b6b2fe536372824f1", func := "buttery/butterylaw23.HandEnds", spec := "handEnds", unfollowed := true, recurses := true, apart := false }
def HandEndsSaid : Prop := handEndsRow.holds Try.pinned (OpenSpec.ofChange handEndsSpec)

/-- ITS FALSE NEIGHBOUR: 'it returns false'. Refute it at one input. -/
def handEndsWrong : ChangeSpec := { name := "handEnds", fn := fun _ => fun
  | [d1, d2, d3, d4] => { results := [.lit (.bool false)], args := [d1, d2, d3, d4] }
  | _ => none }
def HandEndsWrongFalsely : Prop := handEndsRow.holds Try.pinned (OpenSpec.ofChange handEndsWrong)

/-- 'butterylaw23.HandNames': WHATEVER THE INPUT: true; the input reads as it did. -/
def handNamesSpec : ChangeSpec := { name := "handNames", fn := fun _ => fun
  | [] => { results := [.lit (.bool true)], args := [] }
  | _ => none }
def handNamesRow : OpenClaim := { program := "ytoceilgifkncoaa", sum := "99f83cdfdc6a90b81a9ecd8fdc68ae4834d332ddf5c9e28b6b2fe536372824f1", func := "buttery/butterylaw23.HandNames", spec := "handNames", unfollowed := true, recurses := true, apart := false }
def HandNamesSaid : Prop := handNamesRow.holds Try.pinned (OpenSpec.ofChange handNamesSpec)

/-- ITS FALSE NEIGHBOUR: 'it returns false'. Refute it at one input. -/
def handNamesWrong : ChangeSpec := { name := "handNames", fn := fun _ => fun
  | [] => { results := [.lit (.bool false)], args := [] }
  | _ => none }
def HandNamesWrongFalsely : Prop := handNamesRow.holds Try.pinned (OpenSpec.ofChange handNamesWrong)

/-- 'butterylaw23.HandWhole': WHATEVER THE INPUT: true; the input reads as it did. -/
def handWholeSpec : ChangeSpec := { name := "handWhole", fn := fun _ => fun
  | [d1, d2, d3, d4] => { results := [.lit (.bool true)], args := [d1, d2, d3, d4] }
  | _ => none }
def handWholeRow : OpenClaim := { program := "ytoceilgifkncoaa", sum := "99f83cdfdc6a90b81a9ecd8fdc68ae4834d332ddf5c9e28b6b2fe536372824f1", func := "buttery/butterylaw23.HandWhole", spec := "handWhole", unfollowed := true, recurses := true, apart := false }
def HandWholeSaid : Prop := handWholeRow.holds Try.pinned (OpenSpec.ofChange handWholeSpec)

/-- ITS FALSE NEIGHBOUR: 'it returns false'. Refute it at one input. -/
def handWholeWrong : ChangeSpec := { name := "handWhole", fn := fun _ => fun
  | [d1, d2, d3, d4] => { results := [.lit (.bool false)], args := [d1, d2, d3, d4] }
  | _ => none }
def HandWholeWrongFalsely : Prop := handWholeRow.holds Try.pinned (OpenSpec.ofChange handWholeWrong)

/- THE SECOND FORM. 'bulk': how many values and letters a reading holds, each counted each time it is reached (what is shared counts as often as it is met; a slice's spare places count too). A statement '..UptoSaid' is the law's where the arguments, and the package variables that the reading takes, are together of bulk at most 1048576: NARROWER than '..Said'. Prove '..Said' where nothing that the law and all that it calls make is longer than what came in: it says more and counts as full. Else prove '..UptoSaid'. A law counts once. -/
mutual
def uptoBulk {H : Type} : DataW H → Nat
  | .lit (.string bytes) => bytes.length + 1
  | .lit _ => 1
  | .nil => 1
  | .ptr d => uptoBulk d + 1
  | .slice elems spare => uptoBulkAll elems + uptoBulkAll spare + 1
  | .agg parts => uptoBulkAll parts + 1
  | .iface _ d => uptoBulk d + 1
  | .map entries => uptoBulkEntries entries + 1
  | .held _ => 1
def uptoBulkAll {H : Type} : List (DataW H) → Nat
  | [] => 0
  | d :: r => uptoBulk d + uptoBulkAll r
def uptoBulkEntries {H : Type} : List (Lit × DataW H) → Nat
  | [] => 0
  | x :: r => uptoBulkEntry x + uptoBulkEntries r
def uptoBulkEntry {H : Type} : Lit × DataW H → Nat
  | (.string bytes, d) => bytes.length + uptoBulk d + 1
  | (_, d) => uptoBulk d + 1
 end
def uptoSmall : (H : Type) → List (DataW H) → Bool := fun _ ds => decide (uptoBulkAll ds ≤ 1048576)
def OpenSpec.upto (s : _root_.Go.ChangeSpec) : _root_.Go.OpenSpec := { _root_.Go.OpenSpec.ofChange s with cond := some uptoSmall }

/-- 'butterylaw23.HandCuts', WHERE WHAT IT READS IS OF BULK AT MOST 1048576: true; the input reads as it did. -/
def handCutsUptoRow : OpenClaim := { program := "ytoceilgifkncoaa", sum := "99f83cdfdc6a90b81a9ecd8fdc68ae4834d332ddf5c9e28b6b2fe536372824f1", func := "buttery/butterylaw23.HandCuts", spec := "handCuts", unfollowed := true, recurses := true, apart := false, narrowed := true }
def HandCutsUptoSaid : Prop := handCutsUptoRow.holds Try.pinned (OpenSpec.upto handCutsSpec)

/-- 'butterylaw23.HandSends', WHERE WHAT IT READS IS OF BULK AT MOST 1048576: true; the input reads as it did. -/
def handSendsUptoRow : OpenClaim := { program := "ytoceilgifkncoaa", sum := "99f83cdfdc6a90b81a9ecd8fdc68ae4834d332ddf5c9e28b6b2fe536372824f1", func := "buttery/butterylaw23.HandSends", spec := "handSends", unfollowed := true, recurses := true, apart := false, narrowed := true }
def HandSendsUptoSaid : Prop := handSendsUptoRow.holds Try.pinned (OpenSpec.upto handSendsSpec)

/-- 'butterylaw23.HandCut', WHERE WHAT IT READS IS OF BULK AT MOST 1048576: true; the input reads as it did. -/
def handCutUptoRow : OpenClaim := { program := "ytoceilgifkncoaa", sum := "99f83cdfdc6a90b81a9ecd8fdc68ae4834d332ddf5c9e28b6b2fe536372824f1", func := "buttery/butterylaw23.HandCut", spec := "handCut", unfollowed := true, recurses := true, apart := false, narrowed := true }
def HandCutUptoSaid : Prop := handCutUptoRow.holds Try.pinned (OpenSpec.upto handCutSpec)

/-- 'butterylaw23.HandEnds', WHERE WHAT IT READS IS OF BULK AT MOST 1048576: true; the input reads as it did. -/
def handEndsUptoRow : OpenClaim := { program := "ytoceilgifkncoaa", sum := "99f83cdfdc6a90b81a9ecd8fdc68ae4834d332ddf5c9e28b6b2fe536372824f1", func := "buttery/butterylaw23.HandEnds", spec := "handEnds", unfollowed := true, recurses := true, apart := false, narrowed := true }
def HandEndsUptoSaid : Prop := handEndsUptoRow.holds Try.pinned (OpenSpec.upto handEndsSpec)

/-- 'butterylaw23.HandNames', WHERE WHAT IT READS IS OF BULK AT MOST 1048576: true; the input reads as it did. -/
def handNamesUptoRow : OpenClaim := { program := "ytoceilgifkncoaa", sum := "99f83cdfdc6a90b81a9ecd8fdc68ae4834d332ddf5c9e28b6b2fe536372824f1", func := "buttery/butterylaw23.HandNames", spec := "handNames", unfollowed := true, recurses := true, apart := false, narrowed := true }
def HandNamesUptoSaid : Prop := handNamesUptoRow.holds Try.pinned (OpenSpec.upto handNamesSpec)

/-- 'butterylaw23.HandWhole', WHERE WHAT IT READS IS OF BULK AT MOST 1048576: true; the input reads as it did. -/
def handWholeUptoRow : OpenClaim := { program := "ytoceilgifkncoaa", sum := "99f83cdfdc6a90b81a9ecd8fdc68ae4834d332ddf5c9e28b6b2fe536372824f1", func := "buttery/butterylaw23.HandWhole", spec := "handWhole", unfollowed := true, recurses := true, apart := false, narrowed := true }
def HandWholeUptoSaid : Prop := handWholeUptoRow.holds Try.pinned (OpenSpec.upto handWholeSpec)

end Rows
end Go.Proofs.Ytoceilgifkncoaa
