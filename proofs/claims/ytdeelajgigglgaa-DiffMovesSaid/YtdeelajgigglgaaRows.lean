/-
  NARROWER THAN 'FOR EVERY INPUT', by the rows' own cells (each row's printed sentence says how): DiffOf: loops.
  DERIVED. THE GIVEN ROWS OF THIS SEAT. 3 by the template 'for every input the law returns true; each argument reads behind the call as it read before'; 0 by the template 'total and deterministic' (their statements: YtdeelajgigglgaaTotals.lean).
  GIVEN WITH THE SEED: the statements are not yours to turn. If you find one false, say at which input.
  Laid BY PROGRAM, IN A SANDBOX (cutbox-rows.mjs): the forced cells as the released guide's own fill.sh prints them over the translation 4f957cda835a4a69… (all of the seat's roots in one cut). By AI agents, Wed Nov 11 2026. No macro, syntax, notation, axiom, sorry.
-/
import Derived.Test.YtdeelajgigglgaaChecked
import GoSem.Claim
import GoSem.ClaimJoined
import GoSem.ClaimMapViews
import Derived.JoinedTies
import Derived.KernelRfl
namespace Go.Proofs.Ytdeelajgigglgaa
/- THE CELL 'sum', in the pinned program and in every row, IS THE sha256 OF THE DUMP (.gsa) THAT YtdeelajgigglgaaProg.lean LOADS. Nothing in Lean hashes anything: it is a label: what it is worth is what the hold of that sum in a sandbox is worth. -/
noncomputable def Try.pinned : Pinned := { name := "ytdeelajgigglgaa", sum := "4f957cda835a4a69b750041b1425d1afffeb15d7c01d7cb719c92bb90db93acc", checked := Try.checked }
namespace Rows
def none {H : Type} : Left H := { results := [], args := [] }

/-- 'twinelaw13.DiffMoves': WHATEVER THE INPUT: true; the input reads as it did. -/
def diffMovesSpec : ChangeSpec := { name := "diffMoves", fn := fun _ => fun
  | [d] => { results := [.lit (.bool true)], args := [d] }
  | _ => none }
def diffMovesRow : OpenClaim := { program := "ytdeelajgigglgaa", sum := "4f957cda835a4a69b750041b1425d1afffeb15d7c01d7cb719c92bb90db93acc", func := "twine/twinelaw13.DiffMoves", spec := "diffMoves", unfollowed := true, recurses := true, plainKeys := false, apart := false }
def DiffMovesSaid : Prop := diffMovesRow.holds Try.pinned (OpenSpec.ofChange diffMovesSpec)

/-- ITS FALSE NEIGHBOUR: 'it returns false'. Refute it at one input. -/
def diffMovesWrong : ChangeSpec := { name := "diffMoves", fn := fun _ => fun
  | [d] => { results := [.lit (.bool false)], args := [d] }
  | _ => none }
def DiffMovesWrongFalsely : Prop := diffMovesRow.holds Try.pinned (OpenSpec.ofChange diffMovesWrong)

/-- 'twinelaw2.SumFinds': WHATEVER THE INPUT: true; the input reads as it did. -/
def sumFindsSpec : ChangeSpec := { name := "sumFinds", fn := fun _ => fun
  | [d1, d2] => { results := [.lit (.bool true)], args := [d1, d2] }
  | _ => none }
def sumFindsRow : OpenClaim := { program := "ytdeelajgigglgaa", sum := "4f957cda835a4a69b750041b1425d1afffeb15d7c01d7cb719c92bb90db93acc", func := "twine/twinelaw2.SumFinds", spec := "sumFinds", unfollowed := true, recurses := true, plainKeys := false, apart := false }
def SumFindsSaid : Prop := sumFindsRow.holds Try.pinned (OpenSpec.ofChange sumFindsSpec)

/-- ITS FALSE NEIGHBOUR: 'it returns false'. Refute it at one input. -/
def sumFindsWrong : ChangeSpec := { name := "sumFinds", fn := fun _ => fun
  | [d1, d2] => { results := [.lit (.bool false)], args := [d1, d2] }
  | _ => none }
def SumFindsWrongFalsely : Prop := sumFindsRow.holds Try.pinned (OpenSpec.ofChange sumFindsWrong)

/-- 'twinelaw13.DiffOf': WHATEVER THE INPUT: true; the input reads as it did. -/
def diffOfSpec : ChangeSpec := { name := "diffOf", fn := fun _ => fun
  | [d1, d2, d3] => { results := [.lit (.bool true)], args := [d1, d2, d3] }
  | _ => none }
def diffOfRow : OpenClaim := { program := "ytdeelajgigglgaa", sum := "4f957cda835a4a69b750041b1425d1afffeb15d7c01d7cb719c92bb90db93acc", func := "twine/twinelaw13.DiffOf", spec := "diffOf", unfollowed := true, recurses := true, loops := true, plainKeys := false, apart := false }
def DiffOfSaid : Prop := diffOfRow.holds Try.pinned (OpenSpec.ofChange diffOfSpec)

/-- ITS FALSE NEIGHBOUR: 'it returns false'. Refute it at one input. -/
def diffOfWrong : ChangeSpec := { name := "diffOf", fn := fun _ => fun
  | [d1, d2, d3] => { results := [.lit (.bool false)], args := [d1, d2, d3] }
  | _ => none }
def DiffOfWrongFalsely : Prop := diffOfRow.holds Try.pinned (OpenSpec.ofChange diffOfWrong)

/- THE SECOND FORM. 'bulk': how many values and letters a reading holds, each counted each time it is reached (what is shared counts as often as it is met; a slice's spare places count too). A statement '..UptoSaid' is the law's where the arguments, and the package variables that the reading takes, are together of bulk at most 1048576: NARROWER than '..Said'. Prove '..Said' where nothing that the law and all that it calls make is longer than what came in: it says more and counts as full. Else prove '..UptoSaid'. A law counts once. -/
mutual
def uptoBulk {H : Type} : DataW H → Nat
  | .lit (.string bytes) => bytes.length + 1
  | .lit _ => 1
  | .nil => 1
  | .ptr d => uptoBulk d + 1
  | .slice elems spare => uptoBulkAll elems + uptoBulkAll spare + 1
  | .agg parts => uptoBulkAll parts + 1
  | .iface _ d => uptoBulk d + 1
  | .map entries => uptoBulkEntries entries + 1
  | .held _ => 1
def uptoBulkAll {H : Type} : List (DataW H) → Nat
  | [] => 0
  | d :: r => uptoBulk d + uptoBulkAll r
def uptoBulkEntries {H : Type} : List (Lit × DataW H) → Nat
  | [] => 0
  | x :: r => uptoBulkEntry x + uptoBulkEntries r
def uptoBulkEntry {H : Type} : Lit × DataW H → Nat
  | (.string bytes, d) => bytes.length + uptoBulk d + 1
  | (_, d) => uptoBulk d + 1
 end
def uptoSmall : (H : Type) → List (DataW H) → Bool := fun _ ds => decide (uptoBulkAll ds ≤ 1048576)
def OpenSpec.upto (s : _root_.Go.ChangeSpec) : _root_.Go.OpenSpec := { _root_.Go.OpenSpec.ofChange s with cond := some uptoSmall }

/-- 'twinelaw13.DiffMoves', WHERE WHAT IT READS IS OF BULK AT MOST 1048576: true; the input reads as it did. -/
def diffMovesUptoRow : OpenClaim := { program := "ytdeelajgigglgaa", sum := "4f957cda835a4a69b750041b1425d1afffeb15d7c01d7cb719c92bb90db93acc", func := "twine/twinelaw13.DiffMoves", spec := "diffMoves", unfollowed := true, recurses := true, plainKeys := false, apart := false, narrowed := true }
def DiffMovesUptoSaid : Prop := diffMovesUptoRow.holds Try.pinned (OpenSpec.upto diffMovesSpec)

/-- 'twinelaw2.SumFinds', WHERE WHAT IT READS IS OF BULK AT MOST 1048576: true; the input reads as it did. -/
def sumFindsUptoRow : OpenClaim := { program := "ytdeelajgigglgaa", sum := "4f957cda835a4a69b750041b1425d1afffeb15d7c01d7cb719c92bb90db93acc", func := "twine/twinelaw2.SumFinds", spec := "sumFinds", unfollowed := true, recurses := true, plainKeys := false, apart := false, narrowed := true }
def SumFindsUptoSaid : Prop := sumFindsUptoRow.holds Try.pinned (OpenSpec.upto sumFindsSpec)

/-- 'twinelaw13.DiffOf', WHERE WHAT IT READS IS OF BULK AT MOST 1048576: true; the input reads as it did. -/
def diffOfUptoRow : OpenClaim := { program := "ytdeelajgigglgaa", sum := "4f957cda835a4a69b750041b1425d1afffeb15d7c01d7cb719c92bb90db93acc", func := "twine/twinelaw13.DiffOf", spec := "diffOf", unfollowed := true, recurses := true, loops := true, plainKeys := false, apart := false, narrowed := true }
def DiffOfUptoSaid : Prop := diffOfUptoRow.holds Try.pinned (OpenSpec.upto diffOfSpec)

end Rows
end Go.Proofs.Ytdeelajgigglgaa
