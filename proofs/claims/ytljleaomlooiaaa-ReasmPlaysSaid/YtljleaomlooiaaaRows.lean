/-
  No cell of these rows narrows 'for every input' (looked for: loops, veiled, ifaces, maps, wideKeys, modest, calm, conditions, laid).
  DERIVED. THE GIVEN ROWS OF THIS SEAT. 4 by the template 'for every input the law returns true; each argument reads behind the call as it read before'; 0 by the template 'total and deterministic' (their statements: YtljleaomlooiaaaTotals.lean).
  GIVEN WITH THE SEED: the statements are not yours to turn. If you find one false, say at which input.
  Laid BY PROGRAM, IN A SANDBOX (cutbox-rows.mjs): the forced cells as the released guide's own fill.sh prints them over the translation 55b67414e23e8eaf… (all of the seat's roots in one cut). By AI agents, Wed Nov 11 2026. No macro, syntax, notation, axiom, sorry.
-/
import Derived.Test.YtljleaomlooiaaaChecked
import GoSem.Claim
import GoSem.ClaimJoined
import GoSem.ClaimMapViews
import Derived.JoinedTies
import Derived.KernelRfl
namespace Go.Proofs.Ytljleaomlooiaaa
/- THE CELL 'sum', in the pinned program and in every row, IS THE sha256 OF THE DUMP (.gsa) THAT YtljleaomlooiaaaProg.lean LOADS. Nothing in Lean hashes anything: it is a label: what it is worth is what the hold of that sum in a sandbox is worth. -/
noncomputable def Try.pinned : Pinned := { name := "ytljleaomlooiaaa", sum := "55b67414e23e8eaff5fa0ac0f806922c11df8be9324544adbc4a35fe741d2562", checked := Try.checked }
namespace Rows
def none {H : Type} : Left H := { results := [], args := [] }

/-- 'bifoldlaw24.ReasmWhole': WHATEVER THE INPUT: true; the input reads as it did. -/
def reasmWholeSpec : ChangeSpec := { name := "reasmWhole", fn := fun _ => fun
  | [d1, d2, d3] => { results := [.lit (.bool true)], args := [d1, d2, d3] }
  | _ => none }
def reasmWholeRow : OpenClaim := { program := "ytljleaomlooiaaa", sum := "55b67414e23e8eaff5fa0ac0f806922c11df8be9324544adbc4a35fe741d2562", func := "bifold/bifoldlaw24.ReasmWhole", spec := "reasmWhole", unfollowed := true, recurses := true, apart := false }
def ReasmWholeSaid : Prop := reasmWholeRow.holds Try.pinned (OpenSpec.ofChange reasmWholeSpec)

/-- ITS FALSE NEIGHBOUR: 'it returns false'. Refute it at one input. -/
def reasmWholeWrong : ChangeSpec := { name := "reasmWhole", fn := fun _ => fun
  | [d1, d2, d3] => { results := [.lit (.bool false)], args := [d1, d2, d3] }
  | _ => none }
def ReasmWholeWrongFalsely : Prop := reasmWholeRow.holds Try.pinned (OpenSpec.ofChange reasmWholeWrong)

/-- 'bifoldlaw24.ReasmBounds': WHATEVER THE INPUT: true; the input reads as it did. -/
def reasmBoundsSpec : ChangeSpec := { name := "reasmBounds", fn := fun _ => fun
  | [d1, d2, d3, d4] => { results := [.lit (.bool true)], args := [d1, d2, d3, d4] }
  | _ => none }
def reasmBoundsRow : OpenClaim := { program := "ytljleaomlooiaaa", sum := "55b67414e23e8eaff5fa0ac0f806922c11df8be9324544adbc4a35fe741d2562", func := "bifold/bifoldlaw24.ReasmBounds", spec := "reasmBounds", unfollowed := true, recurses := true, apart := false }
def ReasmBoundsSaid : Prop := reasmBoundsRow.holds Try.pinned (OpenSpec.ofChange reasmBoundsSpec)

/-- ITS FALSE NEIGHBOUR: 'it returns false'. Refute it at one input. -/
def reasmBoundsWrong : ChangeSpec := { name := "reasmBounds", fn := fun _ => fun
  | [d1, d2, d3, d4] => { results := [.lit (.bool false)], args := [d1, d2, d3, d4] }
  | _ => none }
def ReasmBoundsWrongFalsely : Prop := reasmBoundsRow.holds Try.pinned (OpenSpec.ofChange reasmBoundsWrong)

/-- 'bifoldlaw24.ReasmFinals': WHATEVER THE INPUT: true; the input reads as it did. -/
def reasmFinalsSpec : ChangeSpec := { name := "reasmFinals", fn := fun _ => fun
  | [d1, d2, d3, d4, d5] => { results := [.lit (.bool true)], args := [d1, d2, d3, d4, d5] }
  | _ => none }
def reasmFinalsRow : OpenClaim := { program := "ytljleaomlooiaaa", sum := "55b67414e23e8eaff5fa0ac0f806922c11df8be9324544adbc4a35fe741d2562", func := "bifold/bifoldlaw24.ReasmFinals", spec := "reasmFinals", unfollowed := true, recurses := true, apart := false }
def ReasmFinalsSaid : Prop := reasmFinalsRow.holds Try.pinned (OpenSpec.ofChange reasmFinalsSpec)

/-- ITS FALSE NEIGHBOUR: 'it returns false'. Refute it at one input. -/
def reasmFinalsWrong : ChangeSpec := { name := "reasmFinals", fn := fun _ => fun
  | [d1, d2, d3, d4, d5] => { results := [.lit (.bool false)], args := [d1, d2, d3, d4, d5] }
  | _ => none }
def ReasmFinalsWrongFalsely : Prop := reasmFinalsRow.holds Try.pinned (OpenSpec.ofChange reasmFinalsWrong)

/-- 'bifoldlaw24.ReasmPlays': WHATEVER THE INPUT: true; the input reads as it did. -/
def reasmPlaysSpec : ChangeSpec := { name := "reasmPlays", fn := fun _ => fun
  | [d1, d2] => { results := [.lit (.bool true)], args := [d1, d2] }
  | _ => none }
def reasmPlaysRow : OpenClaim := { program := "ytljleaomlooiaaa", sum := "55b67414e23e8eaff5fa0ac0f806922c11df8be9324544adbc4a35fe741d2562", func := "bifold/bifoldlaw24.ReasmPlays", spec := "reasmPlays", unfollowed := true, recurses := true, apart := false }
def ReasmPlaysSaid : Prop := reasmPlaysRow.holds Try.pinned (OpenSpec.ofChange reasmPlaysSpec)

/-- ITS FALSE NEIGHBOUR: 'it returns false'. Refute it at one input. -/
def reasmPlaysWrong : ChangeSpec := { name := "reasmPlays", fn := fun _ => fun
  | [d1, d2] => { results := [.lit (.bool false)], args := [d1, d2] }
  | _ => none }
def ReasmPlaysWrongFalsely : Prop := reasmPlaysRow.holds Try.pinned (OpenSpec.ofChange reasmPlaysWrong)

/- THE SECOND FORM. 'bulk': how many values and letters a reading holds, each counted each time it is reached (what is shared counts as often as it is met; a slice's spare places count too). A statement '..UptoSaid' is the law's where the arguments, and the package variables that the reading takes, are together of bulk at most 1048576: NARROWER than '..Said'. Prove '..Said' where nothing that the law and all that it calls make is longer than what came in: it says more and counts as full. Else prove '..UptoSaid'. A law counts once. -/
mutual
def uptoBulk {H : Type} : DataW H → Nat
  | .lit (.string bytes) => bytes.length + 1
  | .lit _ => 1
  | .nil => 1
  | .ptr d => uptoBulk d + 1
  | .slice elems spare => uptoBulkAll elems + uptoBulkAll spare + 1
  | .agg parts => uptoBulkAll parts + 1
  | .iface _ d => uptoBulk d + 1
  | .map entries => uptoBulkEntries entries + 1
  | .held _ => 1
def uptoBulkAll {H : Type} : List (DataW H) → Nat
  | [] => 0
  | d :: r => uptoBulk d + uptoBulkAll r
def uptoBulkEntries {H : Type} : List (Lit × DataW H) → Nat
  | [] => 0
  | x :: r => uptoBulkEntry x + uptoBulkEntries r
def uptoBulkEntry {H : Type} : Lit × DataW H → Nat
  | (.string bytes, d) => bytes.length + uptoBulk d + 1
  | (_, d) => uptoBulk d + 1
 end
def uptoSmall : (H : Type) → List (DataW H) → Bool := fun _ ds => decide (uptoBulkAll ds ≤ 1048576)
def OpenSpec.upto (s : _root_.Go.ChangeSpec) : _root_.Go.OpenSpec := { _root_.Go.OpenSpec.ofChange s with cond := some uptoSmall }

/-- 'bifoldlaw24.ReasmWhole', WHERE WHAT IT READS IS OF BULK AT MOST 1048576: true; the input reads as it did. -/
def reasmWholeUptoRow : OpenClaim := { program := "ytljleaomlooiaaa", sum := "55b67414e23e8eaff5fa0ac0f806922c11df8be9324544adbc4a35fe741d2562", func := "bifold/bifoldlaw24.ReasmWhole", spec := "reasmWhole", unfollowed := true, recurses := true, apart := false, narrowed := true }
def ReasmWholeUptoSaid : Prop := reasmWholeUptoRow.holds Try.pinned (OpenSpec.upto reasmWholeSpec)

/-- 'bifoldlaw24.ReasmBounds', WHERE WHAT IT READS IS OF BULK AT MOST 1048576: true; the input reads as it did. -/
def reasmBoundsUptoRow : OpenClaim := { program := "ytljleaomlooiaaa", sum := "55b67414e23e8eaff5fa0ac0f806922c11df8be9324544adbc4a35fe741d2562", func := "bifold/bifoldlaw24.ReasmBounds", spec := "reasmBounds", unfollowed := true, recurses := true, apart := false, narrowed := true }
def ReasmBoundsUptoSaid : Prop := reasmBoundsUptoRow.holds Try.pinned (OpenSpec.upto reasmBoundsSpec)

/-- 'bifoldlaw24.ReasmFinals', WHERE WHAT IT READS IS OF BULK AT MOST 1048576: true; the input reads as it did. -/
def reasmFinalsUptoRow : OpenClaim := { program := "ytljleaomlooiaaa", sum := "55b67414e23e8eaff5fa0ac0f806922c11df8be9324544adbc4a35fe741d2562", func := "bifold/bifoldlaw24.ReasmFinals", spec := "reasmFinals", unfollowed := true, recurses := true, apart := false, narrowed := true }
def ReasmFinalsUptoSaid : Prop := reasmFinalsUptoRow.holds Try.pinned (OpenSpec.upto reasmFinalsSpec)

/-- 'bifoldlaw24.ReasmPlays', WHERE WHAT IT READS IS OF BULK AT MOST 1048576: true; the input reads as it did. -/
def reasmPlaysUptoRow : OpenClaim := { program := "ytljleaomlooiaaa", sum := "55b67414e23e8eaff5fa0ac0f806922c11df8be9324544adbc4a35fe741d2562", func := "bifold/bifoldlaw24.ReasmPlays", spec := "reasmPlays", unfollowed := true, recurses := true, apart := false, narrowed := true }
def ReasmPlaysUptoSaid : Prop := reasmPlaysUptoRow.holds Try.pinned (OpenSpec.upto reasmPlaysSpec)

end Rows
end Go.Proofs.Ytljleaomlooiaaa
