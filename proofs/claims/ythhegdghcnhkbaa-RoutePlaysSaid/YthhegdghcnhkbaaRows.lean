/-
  No cell of these rows narrows 'for every input' (looked for: loops, veiled, ifaces, maps, wideKeys, modest, calm, conditions, laid).
  DERIVED. THE GIVEN ROWS OF THIS SEAT. 5 by the template 'for every input the law returns true; each argument reads behind the call as it read before'; 0 by the template 'total and deterministic' (their statements: YthhegdghcnhkbaaTotals.lean).
  GIVEN WITH THE SEED: the statements are not yours to turn. If you find one false, say at which input.
  Laid BY PROGRAM, IN A SANDBOX (cutbox-rows.mjs): the forced cells as the released guide's own fill.sh prints them over the translation 92fe7d793faed0b1… (all of the seat's roots in one cut). By AI agents, Wed Nov 11 2026. No macro, syntax, notation, axiom, sorry.
-/
import Derived.Test.YthhegdghcnhkbaaChecked
import GoSem.Claim
import GoSem.ClaimJoined
import GoSem.ClaimMapViews
import Derived.JoinedTies
import Derived.KernelRfl
namespace Go.Proofs.Ythhegdghcnhkbaa
/- THE CELL 'sum', in the pinned program and in every row, IS THE sha256 OF THE DUMP (.gsa) THAT YthhegdghcnhkbaaProg.lean LOADS. Nothing in Lean hashes anything: it is a label: what it is worth is what the hold of that sum in a sandbox is worth. -/
noncomputable def Try.pinned : Pinned := { name := "ythhegdghcnhkbaa", sum := "92fe7d793faed0b133a6c13783183d1be8e955c4eb2acc2d5e09b550976cfa3f", checked := Try.checked }
namespace Rows
def none {H : Type} : Left H := { results := [], args := [] }

/-- 'butterylaw25.RouteNewest': WHATEVER THE INPUT: true; the input reads as it did. -/
def routeNewestSpec : ChangeSpec := { name := "routeNewest", fn := fun _ => fun
  | [d1, d2] => { results := [.lit (.bool true)], args := [d1, d2] }
  | _ => none }
def routeNewestRow : OpenClaim := { program := "ythhegdghcnhkbaa", sum := "92fe7d793faed0b133a6c13783183d1be8e955c4eb2acc2d5e09b550976cfa3f", func := "buttery/butterylaw25.RouteNewest", spec := "routeNewest", apart := false }
def RouteNewestSaid : Prop := routeNewestRow.holds Try.pinned (OpenSpec.ofChange routeNewestSpec)

/-- ITS FALSE NEIGHBOUR: 'it returns false'. Refute it at one input. -/
def routeNewestWrong : ChangeSpec := { name := "routeNewest", fn := fun _ => fun
  | [d1, d2] => { results := [.lit (.bool false)], args := [d1, d2] }
  | _ => none }
def RouteNewestWrongFalsely : Prop := routeNewestRow.holds Try.pinned (OpenSpec.ofChange routeNewestWrong)

/-- 'butterylaw25.RouteTurns': WHATEVER THE INPUT: true; the input reads as it did. -/
def routeTurnsSpec : ChangeSpec := { name := "routeTurns", fn := fun _ => fun
  | [d1, d2, d3] => { results := [.lit (.bool true)], args := [d1, d2, d3] }
  | _ => none }
def routeTurnsRow : OpenClaim := { program := "ythhegdghcnhkbaa", sum := "92fe7d793faed0b133a6c13783183d1be8e955c4eb2acc2d5e09b550976cfa3f", func := "buttery/butterylaw25.RouteTurns", spec := "routeTurns", apart := false }
def RouteTurnsSaid : Prop := routeTurnsRow.holds Try.pinned (OpenSpec.ofChange routeTurnsSpec)

/-- ITS FALSE NEIGHBOUR: 'it returns false'. Refute it at one input. -/
def routeTurnsWrong : ChangeSpec := { name := "routeTurns", fn := fun _ => fun
  | [d1, d2, d3] => { results := [.lit (.bool false)], args := [d1, d2, d3] }
  | _ => none }
def RouteTurnsWrongFalsely : Prop := routeTurnsRow.holds Try.pinned (OpenSpec.ofChange routeTurnsWrong)

/-- 'butterylaw25.RouteSetups': WHATEVER THE INPUT: true; the input reads as it did. -/
def routeSetupsSpec : ChangeSpec := { name := "routeSetups", fn := fun _ => fun
  | [d] => { results := [.lit (.bool true)], args := [d] }
  | _ => none }
def routeSetupsRow : OpenClaim := { program := "ythhegdghcnhkbaa", sum := "92fe7d793faed0b133a6c13783183d1be8e955c4eb2acc2d5e09b550976cfa3f", func := "buttery/butterylaw25.RouteSetups", spec := "routeSetups", apart := false }
def RouteSetupsSaid : Prop := routeSetupsRow.holds Try.pinned (OpenSpec.ofChange routeSetupsSpec)

/-- ITS FALSE NEIGHBOUR: 'it returns false'. Refute it at one input. -/
def routeSetupsWrong : ChangeSpec := { name := "routeSetups", fn := fun _ => fun
  | [d] => { results := [.lit (.bool false)], args := [d] }
  | _ => none }
def RouteSetupsWrongFalsely : Prop := routeSetupsRow.holds Try.pinned (OpenSpec.ofChange routeSetupsWrong)

/-- 'butterylaw25.RouteNames': WHATEVER THE INPUT: true; the input reads as it did. -/
def routeNamesSpec : ChangeSpec := { name := "routeNames", fn := fun _ => fun
  | [] => { results := [.lit (.bool true)], args := [] }
  | _ => none }
def routeNamesRow : OpenClaim := { program := "ythhegdghcnhkbaa", sum := "92fe7d793faed0b133a6c13783183d1be8e955c4eb2acc2d5e09b550976cfa3f", func := "buttery/butterylaw25.RouteNames", spec := "routeNames", apart := false }
def RouteNamesSaid : Prop := routeNamesRow.holds Try.pinned (OpenSpec.ofChange routeNamesSpec)

/-- ITS FALSE NEIGHBOUR: 'it returns false'. Refute it at one input. -/
def routeNamesWrong : ChangeSpec := { name := "routeNames", fn := fun _ => fun
  | [] => { results := [.lit (.bool false)], args := [] }
  | _ => none }
def RouteNamesWrongFalsely : Prop := routeNamesRow.holds Try.pinned (OpenSpec.ofChange routeNamesWrong)

/-- 'butterylaw25.RoutePlays': WHATEVER THE INPUT: true; the input reads as it did. -/
def routePlaysSpec : ChangeSpec := { name := "routePlays", fn := fun _ => fun
  | [d1, d2, d3] => { results := [.lit (.bool true)], args := [d1, d2, d3] }
  | _ => none }
def routePlaysRow : OpenClaim := { program := "ythhegdghcnhkbaa", sum := "92fe7d793faed0b133a6c13783183d1be8e955c4eb2acc2d5e09b550976cfa3f", func := "buttery/butterylaw25.RoutePlays", spec := "routePlays", apart := false }
def RoutePlaysSaid : Prop := routePlaysRow.holds Try.pinned (OpenSpec.ofChange routePlaysSpec)

/-- ITS FALSE NEIGHBOUR: 'it returns false'. Refute it at one input. -/
def routePlaysWrong : ChangeSpec := { name := "routePlays", fn := fun _ => fun
  | [d1, d2, d3] => { results := [.lit (.bool false)], args := [d1, d2, d3] }
  | _ => none }
def RoutePlaysWrongFalsely : Prop := routePlaysRow.holds Try.pinned (OpenSpec.ofChange routePlaysWrong)

/- THE SECOND FORM. 'bulk': how many values and letters a reading holds, each counted each time it is reached (what is shared counts as often as it is met; a slice's spare places count too). A statement '..UptoSaid' is the law's where the arguments, and the package variables that the reading takes, are together of bulk at most 1048576: NARROWER than '..Said'. Prove '..Said' where nothing that the law and all that it calls make is longer than what came in: it says more and counts as full. Else prove '..UptoSaid'. A law counts once. -/
mutual
def uptoBulk {H : Type} : DataW H → Nat
  | .lit (.string bytes) => bytes.length + 1
  | .lit _ => 1
  | .nil => 1
  | .ptr d => uptoBulk d + 1
  | .slice elems spare => uptoBulkAll elems + uptoBulkAll spare + 1
  | .agg parts => uptoBulkAll parts + 1
  | .iface _ d => uptoBulk d + 1
  | .map entries => uptoBulkEntries entries + 1
  | .held _ => 1
def uptoBulkAll {H : Type} : List (DataW H) → Nat
  | [] => 0
  | d :: r => uptoBulk d + uptoBulkAll r
def uptoBulkEntries {H : Type} : List (Lit × DataW H) → Nat
  | [] => 0
  | x :: r => uptoBulkEntry x + uptoBulkEntries r
def uptoBulkEntry {H : Type} : Lit × DataW H → Nat
  | (.string bytes, d) => bytes.length + uptoBulk d + 1
  | (_, d) => uptoBulk d + 1
 end
def uptoSmall : (H : Type) → List (DataW H) → Bool := fun _ ds => decide (uptoBulkAll ds ≤ 1048576)
def OpenSpec.upto (s : _root_.Go.ChangeSpec) : _root_.Go.OpenSpec := { _root_.Go.OpenSpec.ofChange s with cond := some uptoSmall }

/-- 'butterylaw25.RouteNewest', WHERE WHAT IT READS IS OF BULK AT MOST 1048576: true; the input reads as it did. -/
def routeNewestUptoRow : OpenClaim := { program := "ythhegdghcnhkbaa", sum := "92fe7d793faed0b133a6c13783183d1be8e955c4eb2acc2d5e09b550976cfa3f", func := "buttery/butterylaw25.RouteNewest", spec := "routeNewest", apart := false, narrowed := true }
def RouteNewestUptoSaid : Prop := routeNewestUptoRow.holds Try.pinned (OpenSpec.upto routeNewestSpec)

/-- 'butterylaw25.RouteTurns', WHERE WHAT IT READS IS OF BULK AT MOST 1048576: true; the input reads as it did. -/
def routeTurnsUptoRow : OpenClaim := { program := "ythhegdghcnhkbaa", sum := "92fe7d793faed0b133a6c13783183d1be8e955c4eb2acc2d5e09b550976cfa3f", func := "buttery/butterylaw25.RouteTurns", spec := "routeTurns", apart := false, narrowed := true }
def RouteTurnsUptoSaid : Prop := routeTurnsUptoRow.holds Try.pinned (OpenSpec.upto routeTurnsSpec)

/-- 'butterylaw25.RouteSetups', WHERE WHAT IT READS IS OF BULK AT MOST 1048576: true; the input reads as it did. -/
def routeSetupsUptoRow : OpenClaim := { program := "ythhegdghcnhkbaa", sum := "92fe7d793faed0b133a6c13783183d1be8e955c4eb2acc2d5e09b550976cfa3f", func := "buttery/butterylaw25.RouteSetups", spec := "routeSetups", apart := false, narrowed := true }
def RouteSetupsUptoSaid : Prop := routeSetupsUptoRow.holds Try.pinned (OpenSpec.upto routeSetupsSpec)

/-- 'butterylaw25.RouteNames', WHERE WHAT IT READS IS OF BULK AT MOST 1048576: true; the input reads as it did. -/
def routeNamesUptoRow : OpenClaim := { program := "ythhegdghcnhkbaa", sum := "92fe7d793faed0b133a6c13783183d1be8e955c4eb2acc2d5e09b550976cfa3f", func := "buttery/butterylaw25.RouteNames", spec := "routeNames", apart := false, narrowed := true }
def RouteNamesUptoSaid : Prop := routeNamesUptoRow.holds Try.pinned (OpenSpec.upto routeNamesSpec)

/-- 'butterylaw25.RoutePlays', WHERE WHAT IT READS IS OF BULK AT MOST 1048576: true; the input reads as it did. -/
def routePlaysUptoRow : OpenClaim := { program := "ythhegdghcnhkbaa", sum := "92fe7d793faed0b133a6c13783183d1be8e955c4eb2acc2d5e09b550976cfa3f", func := "buttery/butterylaw25.RoutePlays", spec := "routePlays", apart := false, narrowed := true }
def RoutePlaysUptoSaid : Prop := routePlaysUptoRow.holds Try.pinned (OpenSpec.upto routePlaysSpec)

end Rows
end Go.Proofs.Ythhegdghcnhkbaa
