/-
  No cell of these rows narrows 'for every input' (looked for: loops, veiled, ifaces, maps, wideKeys, modest, calm, conditions, laid).
  DERIVED. THE GIVEN ROWS OF THIS SEAT. 5 by the template 'for every input the law returns true; each argument reads behind the call as it read before'; 0 by the template 'total and deterministic' (their statements: YtkekjbdppabmhaaTotals.lean).
  GIVEN WITH THE SEED: the statements are not yours to turn. If you find one false, say at which input.
  Laid BY PROGRAM, IN A SANDBOX (cutbox-rows.mjs): the forced cells as the released guide's own fill.sh prints them over the translation b53504ae33013485… (all of the seat's roots in one cut). By AI agents, Wed Nov 11 2026. No macro, syntax, notation, axiom, sorry.
-/
import Derived.Test.YtkekjbdppabmhaaChecked
import GoSem.Claim
import GoSem.ClaimJoined
import GoSem.ClaimMapViews
import Derived.JoinedTies
import Derived.KernelRfl
namespace Go.Proofs.Ytkekjbdppabmhaa
/- THE CELL 'sum', in the pinned program and in every row, IS THE sha256 OF THE DUMP (.gsa) THAT YtkekjbdppabmhaaProg.lean LOADS. Nothing in Lean hashes anything: it is a label: what it is worth is what the hold of that sum in a sandbox is worth. -/
noncomputable def Try.pinned : Pinned := { name := "ytkekjbdppabmhaa", sum := "b53504ae33013485d324e39ddae9d444dfe958302a86edf712404dbb773cd3c1", checked := Try.checked }
namespace Rows
def none {H : Type} : Left H := { results := [], args := [] }

/-- 'butterylaw14.RlogPieces': WHATEVER THE INPUT: true; the input reads as it did. -/
def rlogPiecesSpec : ChangeSpec := { name := "rlogPieces", fn := fun _ => fun
  | [d1, d2, d3, d4, d5] => { results := [.lit (.bool true)], args := [d1, d2, d3, d4, d5] }
  | _ => none }
def rlogPiecesRow : OpenClaim := { program := "ytkekjbdppabmhaa", sum := "b53504ae33013485d324e39ddae9d444dfe958302a86edf712404dbb773cd3c1", func := "buttery/butterylaw14.RlogPieces", spec := "rlogPieces", unfollowed := true, recurses := true, apart := false }
def RlogPiecesSaid : Prop := rlogPiecesRow.holds Try.pinned (OpenSpec.ofChange rlogPiecesSpec)

/-- ITS FALSE NEIGHBOUR: 'it returns false'. Refute it at one input. -/
def rlogPiecesWrong : ChangeSpec := { name := "rlogPieces", fn := fun _ => fun
  | [d1, d2, d3, d4, d5] => { results := [.lit (.bool false)], args := [d1, d2, d3, d4, d5] }
  | _ => none }
def RlogPiecesWrongFalsely : Prop := rlogPiecesRow.holds Try.pinned (OpenSpec.ofChange rlogPiecesWrong)

/-- 'butterylaw14.RlogCuts': WHATEVER THE INPUT: true; the input reads as it did. -/
def rlogCutsSpec : ChangeSpec := { name := "rlogCuts", fn := fun _ => fun
  | [d1, d2, d3, d4] => { results := [.lit (.bool true)], args := [d1, d2, d3, d4] }
  | _ => none }
def rlogCutsRow : OpenClaim := { program := "ytkekjbdppabmhaa", sum := "b53504ae33013485d324e39ddae9d444dfe958302a86edf712404dbb773cd3c1", func := "buttery/butterylaw14.RlogCuts", spec := "rlogCuts", unfollowed := true, recurses := true, apart := false }
def RlogCutsSaid : Prop := rlogCutsRow.holds Try.pinned (OpenSpec.ofChange rlogCutsSpec)

/-- ITS FALSE NEIGHBOUR: 'it returns false'. Refute it at one input. -/
def rlogCutsWrong : ChangeSpec := { name := "rlogCuts", fn := fun _ => fun
  | [d1, d2, d3, d4] => { results := [.lit (.bool false)], args := [d1, d2, d3, d4] }
  | _ => none }
def RlogCutsWrongFalsely : Prop := rlogCutsRow.holds Try.pinned (OpenSpec.ofChange rlogCutsWrong)

/-- 'butterylaw14.RlogEntries': WHATEVER THE INPUT: true; the input reads as it did. -/
def rlogEntriesSpec : ChangeSpec := { name := "rlogEntries", fn := fun _ => fun
  | [d1, d2] => { results := [.lit (.bool true)], args := [d1, d2] }
  | _ => none }
def rlogEntriesRow : OpenClaim := { program := "ytkekjbdppabmhaa", sum := "b53504ae33013485d324e39ddae9d444dfe958302a86edf712404dbb773cd3c1", func := "buttery/butterylaw14.RlogEntries", spec := "rlogEntries", unfollowed := true, recurses := true, apart := false }
def RlogEntriesSaid : Prop := rlogEntriesRow.holds Try.pinned (OpenSpec.ofChange rlogEntriesSpec)

/-- ITS FALSE NEIGHBOUR: 'it returns false'. Refute it at one input. -/
def rlogEntriesWrong : ChangeSpec := { name := "rlogEntries", fn := fun _ => fun
  | [d1, d2] => { results := [.lit (.bool false)], args := [d1, d2] }
  | _ => none }
def RlogEntriesWrongFalsely : Prop := rlogEntriesRow.holds Try.pinned (OpenSpec.ofChange rlogEntriesWrong)

/-- 'butterylaw14.RlogBack': WHATEVER THE INPUT: true; the input reads as it did. -/
def rlogBackSpec : ChangeSpec := { name := "rlogBack", fn := fun _ => fun
  | [d1, d2] => { results := [.lit (.bool true)], args := [d1, d2] }
  | _ => none }
def rlogBackRow : OpenClaim := { program := "ytkekjbdppabmhaa", sum := "b53504ae33013485d324e39ddae9d444dfe958302a86edf712404dbb773cd3c1", func := "buttery/butterylaw14.RlogBack", spec := "rlogBack", unfollowed := true, recurses := true, apart := false }
def RlogBackSaid : Prop := rlogBackRow.holds Try.pinned (OpenSpec.ofChange rlogBackSpec)

/-- ITS FALSE NEIGHBOUR: 'it returns false'. Refute it at one input. -/
def rlogBackWrong : ChangeSpec := { name := "rlogBack", fn := fun _ => fun
  | [d1, d2] => { results := [.lit (.bool false)], args := [d1, d2] }
  | _ => none }
def RlogBackWrongFalsely : Prop := rlogBackRow.holds Try.pinned (OpenSpec.ofChange rlogBackWrong)

/-- 'butterylaw14.RlogNames': WHATEVER THE INPUT: true; the input reads as it did. -/
def rlogNamesSpec : ChangeSpec := { name := "rlogNames", fn := fun _ => fun
  | [] => { results := [.lit (.bool true)], args := [] }
  | _ => none }
def rlogNamesRow : OpenClaim := { program := "ytkekjbdppabmhaa", sum := "b53504ae33013485d324e39ddae9d444dfe958302a86edf712404dbb773cd3c1", func := "buttery/butterylaw14.RlogNames", spec := "rlogNames", unfollowed := true, recurses := true, apart := false }
def RlogNamesSaid : Prop := rlogNamesRow.holds Try.pinned (OpenSpec.ofChange rlogNamesSpec)

/-- ITS FALSE NEIGHBOUR: 'it returns false'. Refute it at one input. -/
def rlogNamesWrong : ChangeSpec := { name := "rlogNames", fn := fun _ => fun
  | [] => { results := [.lit (.bool false)], args := [] }
  | _ => none }
def RlogNamesWrongFalsely : Prop := rlogNamesRow.holds Try.pinned (OpenSpec.ofChange rlogNamesWrong)

/- THE SECOND FORM. 'bulk': how many values and letters a reading holds, each counted each time it is reached (what is shared counts as often as it is met; a slice's spare places count too). A statement '..UptoSaid' is the law's where the arguments, and the package variables that the reading takes, are together of bulk at most 1048576: NARROWER than '..Said'. Prove '..Said' where nothing that the law and all that it calls make is longer than what came in: it says more and counts as full. Else prove '..UptoSaid'. A law counts once. -/
mutual
def uptoBulk {H : Type} : DataW H → Nat
  | .lit (.string bytes) => bytes.length + 1
  | .lit _ => 1
  | .nil => 1
  | .ptr d => uptoBulk d + 1
  | .slice elems spare => uptoBulkAll elems + uptoBulkAll spare + 1
  | .agg parts => uptoBulkAll parts + 1
  | .iface _ d => uptoBulk d + 1
  | .map entries => uptoBulkEntries entries + 1
  | .held _ => 1
def uptoBulkAll {H : Type} : List (DataW H) → Nat
  | [] => 0
  | d :: r => uptoBulk d + uptoBulkAll r
def uptoBulkEntries {H : Type} : List (Lit × DataW H) → Nat
  | [] => 0
  | x :: r => uptoBulkEntry x + uptoBulkEntries r
def uptoBulkEntry {H : Type} : Lit × DataW H → Nat
  | (.string bytes, d) => bytes.length + uptoBulk d + 1
  | (_, d) => uptoBulk d + 1
 end
def uptoSmall : (H : Type) → List (DataW H) → Bool := fun _ ds => decide (uptoBulkAll ds ≤ 1048576)
def OpenSpec.upto (s : _root_.Go.ChangeSpec) : _root_.Go.OpenSpec := { _root_.Go.OpenSpec.ofChange s with cond := some uptoSmall }

/-- 'butterylaw14.RlogPieces', WHERE WHAT IT READS IS OF BULK AT MOST 1048576: true; the input reads as it did. -/
def rlogPiecesUptoRow : OpenClaim := { program := "ytkekjbdppabmhaa", sum := "b53504ae33013485d324e39ddae9d444dfe958302a86edf712404dbb773cd3c1", func := "buttery/butterylaw14.RlogPieces", spec := "rlogPieces", unfollowed := true, recurses := true, apart := false, narrowed := true }
def RlogPiecesUptoSaid : Prop := rlogPiecesUptoRow.holds Try.pinned (OpenSpec.upto rlogPiecesSpec)

/-- 'butterylaw14.RlogCuts', WHERE WHAT IT READS IS OF BULK AT MOST 1048576: true; the input reads as it did. -/
def rlogCutsUptoRow : OpenClaim := { program := "ytkekjbdppabmhaa", sum := "b53504ae33013485d324e39ddae9d444dfe958302a86edf712404dbb773cd3c1", func := "buttery/butterylaw14.RlogCuts", spec := "rlogCuts", unfollowed := true, recurses := true, apart := false, narrowed := true }
def RlogCutsUptoSaid : Prop := rlogCutsUptoRow.holds Try.pinned (OpenSpec.upto rlogCutsSpec)

/-- 'butterylaw14.RlogEntries', WHERE WHAT IT READS IS OF BULK AT MOST 1048576: true; the input reads as it did. -/
def rlogEntriesUptoRow : OpenClaim := { program := "ytkekjbdppabmhaa", sum := "b53504ae33013485d324e39ddae9d444dfe958302a86edf712404dbb773cd3c1", func := "buttery/butterylaw14.RlogEntries", spec := "rlogEntries", unfollowed := true, recurses := true, apart := false, narrowed := true }
def RlogEntriesUptoSaid : Prop := rlogEntriesUptoRow.holds Try.pinned (OpenSpec.upto rlogEntriesSpec)

/-- 'butterylaw14.RlogBack', WHERE WHAT IT READS IS OF BULK AT MOST 1048576: true; the input reads as it did. -/
def rlogBackUptoRow : OpenClaim := { program := "ytkekjbdppabmhaa", sum := "b53504ae33013485d324e39ddae9d444dfe958302a86edf712404dbb773cd3c1", func := "buttery/butterylaw14.RlogBack", spec := "rlogBack", unfollowed := true, recurses := true, apart := false, narrowed := true }
def RlogBackUptoSaid : Prop := rlogBackUptoRow.holds Try.pinned (OpenSpec.upto rlogBackSpec)

/-- 'butterylaw14.RlogNames', WHERE WHAT IT READS IS OF BULK AT MOST 1048576: true; the input reads as it did. -/
def rlogNamesUptoRow : OpenClaim := { program := "ytkekjbdppabmhaa", sum := "b53504ae33013485d324e39ddae9d444dfe958302a86edf712404dbb773cd3c1", func := "buttery/butterylaw14.RlogNames", spec := "rlogNames", unfollowed := true, recurses := true, apart := false, narrowed := true }
def RlogNamesUptoSaid : Prop := rlogNamesUptoRow.holds Try.pinned (OpenSpec.upto rlogNamesSpec)

end Rows
end Go.Proofs.Ytkekjbdppabmhaa
