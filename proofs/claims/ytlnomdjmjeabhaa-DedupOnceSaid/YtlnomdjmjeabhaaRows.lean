/-
  No cell of these rows narrows 'for every input' (looked for: loops, veiled, ifaces, maps, wideKeys, modest, calm, conditions, laid).
  DERIVED. THE GIVEN ROWS OF THIS SEAT. 7 by the template 'for every input the law returns true; each argument reads behind the call as it read before'; 0 by the template 'total and deterministic' (their statements: YtlnomdjmjeabhaaTotals.lean).
  GIVEN WITH THE SEED: the statements are not yours to turn. If you find one false, say at which input.
  Laid BY PROGRAM, IN A SANDBOX (cutbox-rows.mjs): the forced cells as the released guide's own fill.sh prints them over the translation 2fda9ec5d1158fe2… (all of the seat's roots in one cut). By AI agents, Wed Nov 11 2026. No macro, syntax, notation, axiom, sorry.
-/
import Derived.Test.YtlnomdjmjeabhaaChecked
import GoSem.Claim
import GoSem.ClaimJoined
import GoSem.ClaimMapViews
import Derived.JoinedTies
import Derived.KernelRfl
namespace Go.Proofs.Ytlnomdjmjeabhaa
/- THE CELL 'sum', in the pinned program and in every row, IS THE sha256 OF THE DUMP (.gsa) THAT YtlnomdjmjeabhaaProg.lean LOADS. Nothing in Lean hashes anything: it is a label: what it is worth is what the hold of that sum in a sandbox is worth. -/
noncomputable def Try.pinned : Pinned := { name := "ytlnomdjmjeabhaa", sum := "2fda9ec5d1158fe2ccfff0cfb074d139544607acb926ce6015b498987ec40698", checked := Try.checked }
namespace Rows
def none {H : Type} : Left H := { results := [], args := [] }

/-- 'butterylaw09.DedupDoes': WHATEVER THE INPUT: true; the input reads as it did. -/
def dedupDoesSpec : ChangeSpec := { name := "dedupDoes", fn := fun _ => fun
  | [d1, d2, d3] => { results := [.lit (.bool true)], args := [d1, d2, d3] }
  | _ => none }
def dedupDoesRow : OpenClaim := { program := "ytlnomdjmjeabhaa", sum := "2fda9ec5d1158fe2ccfff0cfb074d139544607acb926ce6015b498987ec40698", func := "buttery/butterylaw09.DedupDoes", spec := "dedupDoes", inPlace := ["slices.overlaps[buttery/api.Pair]"], unfollowed := true, recurses := true, apart := false }
def DedupDoesSaid : Prop := dedupDoesRow.holds Try.pinned (OpenSpec.ofChange dedupDoesSpec)

/-- ITS FALSE NEIGHBOUR: 'it returns false'. Refute it at one input. -/
def dedupDoesWrong : ChangeSpec := { name := "dedupDoes", fn := fun _ => fun
  | [d1, d2, d3] => { results := [.lit (.bool false)], args := [d1, d2, d3] }
  | _ => none }
def DedupDoesWrongFalsely : Prop := dedupDoesRow.holds Try.pinned (OpenSpec.ofChange dedupDoesWrong)

/-- 'butterylaw09.DedupSteps': WHATEVER THE INPUT: true; the input reads as it did. -/
def dedupStepsSpec : ChangeSpec := { name := "dedupSteps", fn := fun _ => fun
  | [d1, d2, d3, d4, d5] => { results := [.lit (.bool true)], args := [d1, d2, d3, d4, d5] }
  | _ => none }
def dedupStepsRow : OpenClaim := { program := "ytlnomdjmjeabhaa", sum := "2fda9ec5d1158fe2ccfff0cfb074d139544607acb926ce6015b498987ec40698", func := "buttery/butterylaw09.DedupSteps", spec := "dedupSteps", inPlace := ["slices.overlaps[buttery/api.Last]", "slices.overlaps[buttery/api.Pair]"], unfollowed := true, recurses := true, apart := false }
def DedupStepsSaid : Prop := dedupStepsRow.holds Try.pinned (OpenSpec.ofChange dedupStepsSpec)

/-- ITS FALSE NEIGHBOUR: 'it returns false'. Refute it at one input. -/
def dedupStepsWrong : ChangeSpec := { name := "dedupSteps", fn := fun _ => fun
  | [d1, d2, d3, d4, d5] => { results := [.lit (.bool false)], args := [d1, d2, d3, d4, d5] }
  | _ => none }
def DedupStepsWrongFalsely : Prop := dedupStepsRow.holds Try.pinned (OpenSpec.ofChange dedupStepsWrong)

/-- 'butterylaw09.DedupMap': WHATEVER THE INPUT: true; the input reads as it did. -/
def dedupMapSpec : ChangeSpec := { name := "dedupMap", fn := fun _ => fun
  | [d] => { results := [.lit (.bool true)], args := [d] }
  | _ => none }
def dedupMapRow : OpenClaim := { program := "ytlnomdjmjeabhaa", sum := "2fda9ec5d1158fe2ccfff0cfb074d139544607acb926ce6015b498987ec40698", func := "buttery/butterylaw09.DedupMap", spec := "dedupMap", inPlace := ["slices.overlaps[buttery/api.Pair]", "slices.overlaps[buttery/api.Last]"], unfollowed := true, recurses := true, apart := false }
def DedupMapSaid : Prop := dedupMapRow.holds Try.pinned (OpenSpec.ofChange dedupMapSpec)

/-- ITS FALSE NEIGHBOUR: 'it returns false'. Refute it at one input. -/
def dedupMapWrong : ChangeSpec := { name := "dedupMap", fn := fun _ => fun
  | [d] => { results := [.lit (.bool false)], args := [d] }
  | _ => none }
def DedupMapWrongFalsely : Prop := dedupMapRow.holds Try.pinned (OpenSpec.ofChange dedupMapWrong)

/-- 'butterylaw09.DedupOnce': WHATEVER THE INPUT: true; the input reads as it did. -/
def dedupOnceSpec : ChangeSpec := { name := "dedupOnce", fn := fun _ => fun
  | [d] => { results := [.lit (.bool true)], args := [d] }
  | _ => none }
def dedupOnceRow : OpenClaim := { program := "ytlnomdjmjeabhaa", sum := "2fda9ec5d1158fe2ccfff0cfb074d139544607acb926ce6015b498987ec40698", func := "buttery/butterylaw09.DedupOnce", spec := "dedupOnce", inPlace := ["slices.overlaps[buttery/api.Pair]", "slices.overlaps[buttery/api.Last]"], unfollowed := true, recurses := true, apart := false }
def DedupOnceSaid : Prop := dedupOnceRow.holds Try.pinned (OpenSpec.ofChange dedupOnceSpec)

/-- ITS FALSE NEIGHBOUR: 'it returns false'. Refute it at one input. -/
def dedupOnceWrong : ChangeSpec := { name := "dedupOnce", fn := fun _ => fun
  | [d] => { results := [.lit (.bool false)], args := [d] }
  | _ => none }
def DedupOnceWrongFalsely : Prop := dedupOnceRow.holds Try.pinned (OpenSpec.ofChange dedupOnceWrong)

/-- 'butterylaw09.DedupApart': WHATEVER THE INPUT: true; the input reads as it did. -/
def dedupApartSpec : ChangeSpec := { name := "dedupApart", fn := fun _ => fun
  | [d1, d2, d3, d4, d5, d6, d7] => { results := [.lit (.bool true)], args := [d1, d2, d3, d4, d5, d6, d7] }
  | _ => none }
def dedupApartRow : OpenClaim := { program := "ytlnomdjmjeabhaa", sum := "2fda9ec5d1158fe2ccfff0cfb074d139544607acb926ce6015b498987ec40698", func := "buttery/butterylaw09.DedupApart", spec := "dedupApart", inPlace := ["slices.overlaps[buttery/api.Pair]", "slices.overlaps[buttery/api.Last]"], unfollowed := true, recurses := true, apart := false }
def DedupApartSaid : Prop := dedupApartRow.holds Try.pinned (OpenSpec.ofChange dedupApartSpec)

/-- ITS FALSE NEIGHBOUR: 'it returns false'. Refute it at one input. -/
def dedupApartWrong : ChangeSpec := { name := "dedupApart", fn := fun _ => fun
  | [d1, d2, d3, d4, d5, d6, d7] => { results := [.lit (.bool false)], args := [d1, d2, d3, d4, d5, d6, d7] }
  | _ => none }
def DedupApartWrongFalsely : Prop := dedupApartRow.holds Try.pinned (OpenSpec.ofChange dedupApartWrong)

/-- 'butterylaw09.DedupNames': WHATEVER THE INPUT: true; the input reads as it did. -/
def dedupNamesSpec : ChangeSpec := { name := "dedupNames", fn := fun _ => fun
  | [] => { results := [.lit (.bool true)], args := [] }
  | _ => none }
def dedupNamesRow : OpenClaim := { program := "ytlnomdjmjeabhaa", sum := "2fda9ec5d1158fe2ccfff0cfb074d139544607acb926ce6015b498987ec40698", func := "buttery/butterylaw09.DedupNames", spec := "dedupNames", inPlace := ["slices.overlaps[buttery/api.Pair]", "slices.overlaps[buttery/api.Last]"], unfollowed := true, recurses := true, apart := false }
def DedupNamesSaid : Prop := dedupNamesRow.holds Try.pinned (OpenSpec.ofChange dedupNamesSpec)

/-- ITS FALSE NEIGHBOUR: 'it returns false'. Refute it at one input. -/
def dedupNamesWrong : ChangeSpec := { name := "dedupNames", fn := fun _ => fun
  | [] => { results := [.lit (.bool false)], args := [] }
  | _ => none }
def DedupNamesWrongFalsely : Prop := dedupNamesRow.holds Try.pinned (OpenSpec.ofChange dedupNamesWrong)

/-- 'butterylaw09.DedupPlaces': WHATEVER THE INPUT: true; the input reads as it did. -/
def dedupPlacesSpec : ChangeSpec := { name := "dedupPlaces", fn := fun _ => fun
  | [d1, d2, d3] => { results := [.lit (.bool true)], args := [d1, d2, d3] }
  | _ => none }
def dedupPlacesRow : OpenClaim := { program := "ytlnomdjmjeabhaa", sum := "2fda9ec5d1158fe2ccfff0cfb074d139544607acb926ce6015b498987ec40698", func := "buttery/butterylaw09.DedupPlaces", spec := "dedupPlaces", inPlace := ["slices.overlaps[buttery/api.Pair]", "slices.overlaps[buttery/api.Last]"], unfollowed := true, recurses := true, apart := false }
def DedupPlacesSaid : Prop := dedupPlacesRow.holds Try.pinned (OpenSpec.ofChange dedupPlacesSpec)

/-- ITS FALSE NEIGHBOUR: 'it returns false'. Refute it at one input. -/
def dedupPlacesWrong : ChangeSpec := { name := "dedupPlaces", fn := fun _ => fun
  | [d1, d2, d3] => { results := [.lit (.bool false)], args := [d1, d2, d3] }
  | _ => none }
def DedupPlacesWrongFalsely : Prop := dedupPlacesRow.holds Try.pinned (OpenSpec.ofChange dedupPlacesWrong)

/- THE SECOND FORM. 'bulk': how many values and letters a reading holds, each counted each time it is reached (what is shared counts as often as it is met; a slice's spare places count too). A statement '..UptoSaid' is the law's where the arguments, and the package variables that the reading takes, are together of bulk at most 1048576: NARROWER than '..Said'. Prove '..Said' where nothing that the law and all that it calls make is longer than what came in: it says more and counts as full. Else prove '..UptoSaid'. A law counts once. -/
mutual
def uptoBulk {H : Type} : DataW H → Nat
  | .lit (.string bytes) => bytes.length + 1
  | .lit _ => 1
  | .nil => 1
  | .ptr d => uptoBulk d + 1
  | .slice elems spare => uptoBulkAll elems + uptoBulkAll spare + 1
  | .agg parts => uptoBulkAll parts + 1
  | .iface _ d => uptoBulk d + 1
  | .map entries => uptoBulkEntries entries + 1
  | .held _ => 1
def uptoBulkAll {H : Type} : List (DataW H) → Nat
  | [] => 0
  | d :: r => uptoBulk d + uptoBulkAll r
def uptoBulkEntries {H : Type} : List (Lit × DataW H) → Nat
  | [] => 0
  | x :: r => uptoBulkEntry x + uptoBulkEntries r
def uptoBulkEntry {H : Type} : Lit × DataW H → Nat
  | (.string bytes, d) => bytes.length + uptoBulk d + 1
  | (_, d) => uptoBulk d + 1
 end
def uptoSmall : (H : Type) → List (DataW H) → Bool := fun _ ds => decide (uptoBulkAll ds ≤ 1048576)
def OpenSpec.upto (s : _root_.Go.ChangeSpec) : _root_.Go.OpenSpec := { _root_.Go.OpenSpec.ofChange s with cond := some uptoSmall }

/-- 'butterylaw09.DedupDoes', WHERE WHAT IT READS IS OF BULK AT MOST 1048576: true; the input reads as it did. -/
def dedupDoesUptoRow : OpenClaim := { program := "ytlnomdjmjeabhaa", sum := "2fda9ec5d1158fe2ccfff0cfb074d139544607acb926ce6015b498987ec40698", func := "buttery/butterylaw09.DedupDoes", spec := "dedupDoes", inPlace := ["slices.overlaps[buttery/api.Pair]"], unfollowed := true, recurses := true, apart := false, narrowed := true }
def DedupDoesUptoSaid : Prop := dedupDoesUptoRow.holds Try.pinned (OpenSpec.upto dedupDoesSpec)

/-- 'butterylaw09.DedupSteps', WHERE WHAT IT READS IS OF BULK AT MOST 1048576: true; the input reads as it did. -/
def dedupStepsUptoRow : OpenClaim := { program := "ytlnomdjmjeabhaa", sum := "2fda9ec5d1158fe2ccfff0cfb074d139544607acb926ce6015b498987ec40698", func := "buttery/butterylaw09.DedupSteps", spec := "dedupSteps", inPlace := ["slices.overlaps[buttery/api.Last]", "slices.overlaps[buttery/api.Pair]"], unfollowed := true, recurses := true, apart := false, narrowed := true }
def DedupStepsUptoSaid : Prop := dedupStepsUptoRow.holds Try.pinned (OpenSpec.upto dedupStepsSpec)

/-- 'butterylaw09.DedupMap', WHERE WHAT IT READS IS OF BULK AT MOST 1048576: true; the input reads as it did. -/
def dedupMapUptoRow : OpenClaim := { program := "ytlnomdjmjeabhaa", sum := "2fda9ec5d1158fe2ccfff0cfb074d139544607acb926ce6015b498987ec40698", func := "buttery/butterylaw09.DedupMap", spec := "dedupMap", inPlace := ["slices.overlaps[buttery/api.Pair]", "slices.overlaps[buttery/api.Last]"], unfollowed := true, recurses := true, apart := false, narrowed := true }
def DedupMapUptoSaid : Prop := dedupMapUptoRow.holds Try.pinned (OpenSpec.upto dedupMapSpec)

/-- 'butterylaw09.DedupOnce', WHERE WHAT IT READS IS OF BULK AT MOST 1048576: true; the input reads as it did. -/
def dedupOnceUptoRow : OpenClaim := { program := "ytlnomdjmjeabhaa", sum := "2fda9ec5d1158fe2ccfff0cfb074d139544607acb926ce6015b498987ec40698", func := "buttery/butterylaw09.DedupOnce", spec := "dedupOnce", inPlace := ["slices.overlaps[buttery/api.Pair]", "slices.overlaps[buttery/api.Last]"], unfollowed := true, recurses := true, apart := false, narrowed := true }
def DedupOnceUptoSaid : Prop := dedupOnceUptoRow.holds Try.pinned (OpenSpec.upto dedupOnceSpec)

/-- 'butterylaw09.DedupApart', WHERE WHAT IT READS IS OF BULK AT MOST 1048576: true; the input reads as it did. -/
def dedupApartUptoRow : OpenClaim := { program := "ytlnomdjmjeabhaa", sum := "2fda9ec5d1158fe2ccfff0cfb074d139544607acb926ce6015b498987ec40698", func := "buttery/butterylaw09.DedupApart", spec := "dedupApart", inPlace := ["slices.overlaps[buttery/api.Pair]", "slices.overlaps[buttery/api.Last]"], unfollowed := true, recurses := true, apart := false, narrowed := true }
def DedupApartUptoSaid : Prop := dedupApartUptoRow.holds Try.pinned (OpenSpec.upto dedupApartSpec)

/-- 'butterylaw09.DedupNames', WHERE WHAT IT READS IS OF BULK AT MOST 1048576: true; the input reads as it did. -/
def dedupNamesUptoRow : OpenClaim := { program := "ytlnomdjmjeabhaa", sum := "2fda9ec5d1158fe2ccfff0cfb074d139544607acb926ce6015b498987ec40698", func := "buttery/butterylaw09.DedupNames", spec := "dedupNames", inPlace := ["slices.overlaps[buttery/api.Pair]", "slices.overlaps[buttery/api.Last]"], unfollowed := true, recurses := true, apart := false, narrowed := true }
def DedupNamesUptoSaid : Prop := dedupNamesUptoRow.holds Try.pinned (OpenSpec.upto dedupNamesSpec)

/-- 'butterylaw09.DedupPlaces', WHERE WHAT IT READS IS OF BULK AT MOST 1048576: true; the input reads as it did. -/
def dedupPlacesUptoRow : OpenClaim := { program := "ytlnomdjmjeabhaa", sum := "2fda9ec5d1158fe2ccfff0cfb074d139544607acb926ce6015b498987ec40698", func := "buttery/butterylaw09.DedupPlaces", spec := "dedupPlaces", inPlace := ["slices.overlaps[buttery/api.Pair]", "slices.overlaps[buttery/api.Last]"], unfollowed := true, recurses := true, apart := false, narrowed := true }
def DedupPlacesUptoSaid : Prop := dedupPlacesUptoRow.holds Try.pinned (OpenSpec.upto dedupPlacesSpec)

end Rows
end Go.Proofs.Ytlnomdjmjeabhaa
