/-
  No cell of these rows narrows 'for every input' (looked for: loops, veiled, ifaces, maps, wideKeys, modest, calm, conditions, laid).
  DERIVED. THE GIVEN ROWS OF THIS SEAT. 12 by the template 'for every input the law returns true; each argument reads behind the call as it read before'; 0 by the template 'total and deterministic' (their statements: YtcebckkpablagaaTotals.lean).
  GIVEN WITH THE SEED: the statements are not yours to turn. If you find one false, say at which input.
  Laid BY PROGRAM, IN A SANDBOX (cutbox-rows.mjs): the forced cells as the released guide's own fill.sh prints them over the translation 0f1fc1fbaa0e214c… (all of the seat's roots in one cut). By AI agents, Wed Nov 11 2026. No macro, syntax, notation, axiom, sorry.
-/
import Derived.Test.YtcebckkpablagaaChecked
import GoSem.Claim
import GoSem.ClaimJoined
import GoSem.ClaimMapViews
import Derived.JoinedTies
import Derived.KernelRfl
namespace Go.Proofs.Ytcebckkpablagaa
/- THE CELL 'sum', in the pinned program and in every row, IS THE sha256 OF THE DUMP (.gsa) THAT YtcebckkpablagaaProg.lean LOADS. Nothing in Lean hashes anything: it is a label: what it is worth is what the hold of that sum in a sandbox is worth. -/
noncomputable def Try.pinned : Pinned := { name := "ytcebckkpablagaa", sum := "0f1fc1fbaa0e214ca3dd88228d9d6cf9087e6230f725562817ee79012fb7b5a9", checked := Try.checked }
namespace Rows
def none {H : Type} : Left H := { results := [], args := [] }

/-- 'bifoldlaw7.HencStrs': WHATEVER THE INPUT: true; the input reads as it did. -/
def hencStrsSpec : ChangeSpec := { name := "hencStrs", fn := fun _ => fun
  | [d1, d2] => { results := [.lit (.bool true)], args := [d1, d2] }
  | _ => none }
def hencStrsRow : OpenClaim := { program := "ytcebckkpablagaa", sum := "0f1fc1fbaa0e214ca3dd88228d9d6cf9087e6230f725562817ee79012fb7b5a9", func := "bifold/bifoldlaw7.HencStrs", spec := "hencStrs", plainKeys := false, apart := false }
def HencStrsSaid : Prop := hencStrsRow.holds Try.pinned (OpenSpec.ofChange hencStrsSpec)

/-- ITS FALSE NEIGHBOUR: 'it returns false'. Refute it at one input. -/
def hencStrsWrong : ChangeSpec := { name := "hencStrs", fn := fun _ => fun
  | [d1, d2] => { results := [.lit (.bool false)], args := [d1, d2] }
  | _ => none }
def HencStrsWrongFalsely : Prop := hencStrsRow.holds Try.pinned (OpenSpec.ofChange hencStrsWrong)

/-- 'bifoldlaw7.HencAgain': WHATEVER THE INPUT: true; the input reads as it did. -/
def hencAgainSpec : ChangeSpec := { name := "hencAgain", fn := fun _ => fun
  | [d] => { results := [.lit (.bool true)], args := [d] }
  | _ => none }
def hencAgainRow : OpenClaim := { program := "ytcebckkpablagaa", sum := "0f1fc1fbaa0e214ca3dd88228d9d6cf9087e6230f725562817ee79012fb7b5a9", func := "bifold/bifoldlaw7.HencAgain", spec := "hencAgain", plainKeys := false, apart := false }
def HencAgainSaid : Prop := hencAgainRow.holds Try.pinned (OpenSpec.ofChange hencAgainSpec)

/-- ITS FALSE NEIGHBOUR: 'it returns false'. Refute it at one input. -/
def hencAgainWrong : ChangeSpec := { name := "hencAgain", fn := fun _ => fun
  | [d] => { results := [.lit (.bool false)], args := [d] }
  | _ => none }
def HencAgainWrongFalsely : Prop := hencAgainRow.holds Try.pinned (OpenSpec.ofChange hencAgainWrong)

/-- 'bifoldlaw7.HencSecrets': WHATEVER THE INPUT: true; the input reads as it did. -/
def hencSecretsSpec : ChangeSpec := { name := "hencSecrets", fn := fun _ => fun
  | [d1, d2] => { results := [.lit (.bool true)], args := [d1, d2] }
  | _ => none }
def hencSecretsRow : OpenClaim := { program := "ytcebckkpablagaa", sum := "0f1fc1fbaa0e214ca3dd88228d9d6cf9087e6230f725562817ee79012fb7b5a9", func := "bifold/bifoldlaw7.HencSecrets", spec := "hencSecrets", plainKeys := false, apart := false }
def HencSecretsSaid : Prop := hencSecretsRow.holds Try.pinned (OpenSpec.ofChange hencSecretsSpec)

/-- ITS FALSE NEIGHBOUR: 'it returns false'. Refute it at one input. -/
def hencSecretsWrong : ChangeSpec := { name := "hencSecrets", fn := fun _ => fun
  | [d1, d2] => { results := [.lit (.bool false)], args := [d1, d2] }
  | _ => none }
def HencSecretsWrongFalsely : Prop := hencSecretsRow.holds Try.pinned (OpenSpec.ofChange hencSecretsWrong)

/-- 'bifoldlaw7.HencBack': WHATEVER THE INPUT: true; the input reads as it did. -/
def hencBackSpec : ChangeSpec := { name := "hencBack", fn := fun _ => fun
  | [d1, d2, d3] => { results := [.lit (.bool true)], args := [d1, d2, d3] }
  | _ => none }
def hencBackRow : OpenClaim := { program := "ytcebckkpablagaa", sum := "0f1fc1fbaa0e214ca3dd88228d9d6cf9087e6230f725562817ee79012fb7b5a9", func := "bifold/bifoldlaw7.HencBack", spec := "hencBack", plainKeys := false, apart := false }
def HencBackSaid : Prop := hencBackRow.holds Try.pinned (OpenSpec.ofChange hencBackSpec)

/-- ITS FALSE NEIGHBOUR: 'it returns false'. Refute it at one input. -/
def hencBackWrong : ChangeSpec := { name := "hencBack", fn := fun _ => fun
  | [d1, d2, d3] => { results := [.lit (.bool false)], args := [d1, d2, d3] }
  | _ => none }
def HencBackWrongFalsely : Prop := hencBackRow.holds Try.pinned (OpenSpec.ofChange hencBackWrong)

/-- 'bifoldlaw7.HencSizes': WHATEVER THE INPUT: true; the input reads as it did. -/
def hencSizesSpec : ChangeSpec := { name := "hencSizes", fn := fun _ => fun
  | [d1, d2] => { results := [.lit (.bool true)], args := [d1, d2] }
  | _ => none }
def hencSizesRow : OpenClaim := { program := "ytcebckkpablagaa", sum := "0f1fc1fbaa0e214ca3dd88228d9d6cf9087e6230f725562817ee79012fb7b5a9", func := "bifold/bifoldlaw7.HencSizes", spec := "hencSizes", plainKeys := false, apart := false }
def HencSizesSaid : Prop := hencSizesRow.holds Try.pinned (OpenSpec.ofChange hencSizesSpec)

/-- ITS FALSE NEIGHBOUR: 'it returns false'. Refute it at one input. -/
def hencSizesWrong : ChangeSpec := { name := "hencSizes", fn := fun _ => fun
  | [d1, d2] => { results := [.lit (.bool false)], args := [d1, d2] }
  | _ => none }
def HencSizesWrongFalsely : Prop := hencSizesRow.holds Try.pinned (OpenSpec.ofChange hencSizesWrong)

/-- 'bifoldlaw6.HdecReads': WHATEVER THE INPUT: true; the input reads as it did. -/
def hdecReadsSpec : ChangeSpec := { name := "hdecReads", fn := fun _ => fun
  | [d1, d2, d3] => { results := [.lit (.bool true)], args := [d1, d2, d3] }
  | _ => none }
def hdecReadsRow : OpenClaim := { program := "ytcebckkpablagaa", sum := "0f1fc1fbaa0e214ca3dd88228d9d6cf9087e6230f725562817ee79012fb7b5a9", func := "bifold/bifoldlaw6.HdecReads", spec := "hdecReads", unfollowed := true, recurses := true, plainKeys := false, apart := false }
def HdecReadsSaid : Prop := hdecReadsRow.holds Try.pinned (OpenSpec.ofChange hdecReadsSpec)

/-- ITS FALSE NEIGHBOUR: 'it returns false'. Refute it at one input. -/
def hdecReadsWrong : ChangeSpec := { name := "hdecReads", fn := fun _ => fun
  | [d1, d2, d3] => { results := [.lit (.bool false)], args := [d1, d2, d3] }
  | _ => none }
def HdecReadsWrongFalsely : Prop := hdecReadsRow.holds Try.pinned (OpenSpec.ofChange hdecReadsWrong)

/-- 'bifoldlaw6.HdecStrs': WHATEVER THE INPUT: true; the input reads as it did. -/
def hdecStrsSpec : ChangeSpec := { name := "hdecStrs", fn := fun _ => fun
  | [d1, d2, d3, d4] => { results := [.lit (.bool true)], args := [d1, d2, d3, d4] }
  | _ => none }
def hdecStrsRow : OpenClaim := { program := "ytcebckkpablagaa", sum := "0f1fc1fbaa0e214ca3dd88228d9d6cf9087e6230f725562817ee79012fb7b5a9", func := "bifold/bifoldlaw6.HdecStrs", spec := "hdecStrs", unfollowed := true, recurses := true, plainKeys := false, apart := false }
def HdecStrsSaid : Prop := hdecStrsRow.holds Try.pinned (OpenSpec.ofChange hdecStrsSpec)

/-- ITS FALSE NEIGHBOUR: 'it returns false'. Refute it at one input. -/
def hdecStrsWrong : ChangeSpec := { name := "hdecStrs", fn := fun _ => fun
  | [d1, d2, d3, d4] => { results := [.lit (.bool false)], args := [d1, d2, d3, d4] }
  | _ => none }
def HdecStrsWrongFalsely : Prop := hdecStrsRow.holds Try.pinned (OpenSpec.ofChange hdecStrsWrong)

/-- 'bifoldlaw6.HdecLimits': WHATEVER THE INPUT: true; the input reads as it did. -/
def hdecLimitsSpec : ChangeSpec := { name := "hdecLimits", fn := fun _ => fun
  | [d1, d2] => { results := [.lit (.bool true)], args := [d1, d2] }
  | _ => none }
def hdecLimitsRow : OpenClaim := { program := "ytcebckkpablagaa", sum := "0f1fc1fbaa0e214ca3dd88228d9d6cf9087e6230f725562817ee79012fb7b5a9", func := "bifold/bifoldlaw6.HdecLimits", spec := "hdecLimits", unfollowed := true, recurses := true, plainKeys := false, apart := false }
def HdecLimitsSaid : Prop := hdecLimitsRow.holds Try.pinned (OpenSpec.ofChange hdecLimitsSpec)

/-- ITS FALSE NEIGHBOUR: 'it returns false'. Refute it at one input. -/
def hdecLimitsWrong : ChangeSpec := { name := "hdecLimits", fn := fun _ => fun
  | [d1, d2] => { results := [.lit (.bool false)], args := [d1, d2] }
  | _ => none }
def HdecLimitsWrongFalsely : Prop := hdecLimitsRow.holds Try.pinned (OpenSpec.ofChange hdecLimitsWrong)

/-- 'bifoldlaw6.HdecCuts': WHATEVER THE INPUT: true; the input reads as it did. -/
def hdecCutsSpec : ChangeSpec := { name := "hdecCuts", fn := fun _ => fun
  | [d1, d2] => { results := [.lit (.bool true)], args := [d1, d2] }
  | _ => none }
def hdecCutsRow : OpenClaim := { program := "ytcebckkpablagaa", sum := "0f1fc1fbaa0e214ca3dd88228d9d6cf9087e6230f725562817ee79012fb7b5a9", func := "bifold/bifoldlaw6.HdecCuts", spec := "hdecCuts", unfollowed := true, recurses := true, plainKeys := false, apart := false }
def HdecCutsSaid : Prop := hdecCutsRow.holds Try.pinned (OpenSpec.ofChange hdecCutsSpec)

/-- ITS FALSE NEIGHBOUR: 'it returns false'. Refute it at one input. -/
def hdecCutsWrong : ChangeSpec := { name := "hdecCuts", fn := fun _ => fun
  | [d1, d2] => { results := [.lit (.bool false)], args := [d1, d2] }
  | _ => none }
def HdecCutsWrongFalsely : Prop := hdecCutsRow.holds Try.pinned (OpenSpec.ofChange hdecCutsWrong)

/-- 'bifoldlaw6.HdecKinds': WHATEVER THE INPUT: true; the input reads as it did. -/
def hdecKindsSpec : ChangeSpec := { name := "hdecKinds", fn := fun _ => fun
  | [d1, d2, d3, d4, d5] => { results := [.lit (.bool true)], args := [d1, d2, d3, d4, d5] }
  | _ => none }
def hdecKindsRow : OpenClaim := { program := "ytcebckkpablagaa", sum := "0f1fc1fbaa0e214ca3dd88228d9d6cf9087e6230f725562817ee79012fb7b5a9", func := "bifold/bifoldlaw6.HdecKinds", spec := "hdecKinds", unfollowed := true, recurses := true, plainKeys := false, apart := false }
def HdecKindsSaid : Prop := hdecKindsRow.holds Try.pinned (OpenSpec.ofChange hdecKindsSpec)

/-- ITS FALSE NEIGHBOUR: 'it returns false'. Refute it at one input. -/
def hdecKindsWrong : ChangeSpec := { name := "hdecKinds", fn := fun _ => fun
  | [d1, d2, d3, d4, d5] => { results := [.lit (.bool false)], args := [d1, d2, d3, d4, d5] }
  | _ => none }
def HdecKindsWrongFalsely : Prop := hdecKindsRow.holds Try.pinned (OpenSpec.ofChange hdecKindsWrong)

/-- 'bifoldlaw6.HdecSizes': WHATEVER THE INPUT: true; the input reads as it did. -/
def hdecSizesSpec : ChangeSpec := { name := "hdecSizes", fn := fun _ => fun
  | [d1, d2, d3, d4, d5] => { results := [.lit (.bool true)], args := [d1, d2, d3, d4, d5] }
  | _ => none }
def hdecSizesRow : OpenClaim := { program := "ytcebckkpablagaa", sum := "0f1fc1fbaa0e214ca3dd88228d9d6cf9087e6230f725562817ee79012fb7b5a9", func := "bifold/bifoldlaw6.HdecSizes", spec := "hdecSizes", unfollowed := true, recurses := true, plainKeys := false, apart := false }
def HdecSizesSaid : Prop := hdecSizesRow.holds Try.pinned (OpenSpec.ofChange hdecSizesSpec)

/-- ITS FALSE NEIGHBOUR: 'it returns false'. Refute it at one input. -/
def hdecSizesWrong : ChangeSpec := { name := "hdecSizes", fn := fun _ => fun
  | [d1, d2, d3, d4, d5] => { results := [.lit (.bool false)], args := [d1, d2, d3, d4, d5] }
  | _ => none }
def HdecSizesWrongFalsely : Prop := hdecSizesRow.holds Try.pinned (OpenSpec.ofChange hdecSizesWrong)

/-- 'bifoldlaw6.HdecPlays': WHATEVER THE INPUT: true; the input reads as it did. -/
def hdecPlaysSpec : ChangeSpec := { name := "hdecPlays", fn := fun _ => fun
  | [d1, d2, d3, d4, d5] => { results := [.lit (.bool true)], args := [d1, d2, d3, d4, d5] }
  | _ => none }
def hdecPlaysRow : OpenClaim := { program := "ytcebckkpablagaa", sum := "0f1fc1fbaa0e214ca3dd88228d9d6cf9087e6230f725562817ee79012fb7b5a9", func := "bifold/bifoldlaw6.HdecPlays", spec := "hdecPlays", unfollowed := true, recurses := true, plainKeys := false, apart := false }
def HdecPlaysSaid : Prop := hdecPlaysRow.holds Try.pinned (OpenSpec.ofChange hdecPlaysSpec)

/-- ITS FALSE NEIGHBOUR: 'it returns false'. Refute it at one input. -/
def hdecPlaysWrong : ChangeSpec := { name := "hdecPlays", fn := fun _ => fun
  | [d1, d2, d3, d4, d5] => { results := [.lit (.bool false)], args := [d1, d2, d3, d4, d5] }
  | _ => none }
def HdecPlaysWrongFalsely : Prop := hdecPlaysRow.holds Try.pinned (OpenSpec.ofChange hdecPlaysWrong)

/- THE SECOND FORM. 'bulk': how many values and letters a reading holds, each counted each time it is reached (what is shared counts as often as it is met; a slice's spare places count too). A statement '..UptoSaid' is the law's where the arguments, and the package variables that the reading takes, are together of bulk at most 1048576: NARROWER than '..Said'. Prove '..Said' where nothing that the law and all that it calls make is longer than what came in: it says more and counts as full. Else prove '..UptoSaid'. A law counts once. -/
mutual
def uptoBulk {H : Type} : DataW H → Nat
  | .lit (.string bytes) => bytes.length + 1
  | .lit _ => 1
  | .nil => 1
  | .ptr d => uptoBulk d + 1
  | .slice elems spare => uptoBulkAll elems + uptoBulkAll spare + 1
  | .agg parts => uptoBulkAll parts + 1
  | .iface _ d => uptoBulk d + 1
  | .map entries => uptoBulkEntries entries + 1
  | .held _ => 1
def uptoBulkAll {H : Type} : List (DataW H) → Nat
  | [] => 0
  | d :: r => uptoBulk d + uptoBulkAll r
def uptoBulkEntries {H : Type} : List (Lit × DataW H) → Nat
  | [] => 0
  | x :: r => uptoBulkEntry x + uptoBulkEntries r
def uptoBulkEntry {H : Type} : Lit × DataW H → Nat
  | (.string bytes, d) => bytes.length + uptoBulk d + 1
  | (_, d) => uptoBulk d + 1
 end
def uptoSmall : (H : Type) → List (DataW H) → Bool := fun _ ds => decide (uptoBulkAll ds ≤ 1048576)
def OpenSpec.upto (s : _root_.Go.ChangeSpec) : _root_.Go.OpenSpec := { _root_.Go.OpenSpec.ofChange s with cond := some uptoSmall }

/-- 'bifoldlaw7.HencStrs', WHERE WHAT IT READS IS OF BULK AT MOST 1048576: true; the input reads as it did. -/
def hencStrsUptoRow : OpenClaim := { program := "ytcebckkpablagaa", sum := "0f1fc1fbaa0e214ca3dd88228d9d6cf9087e6230f725562817ee79012fb7b5a9", func := "bifold/bifoldlaw7.HencStrs", spec := "hencStrs", plainKeys := false, apart := false, narrowed := true }
def HencStrsUptoSaid : Prop := hencStrsUptoRow.holds Try.pinned (OpenSpec.upto hencStrsSpec)

/-- 'bifoldlaw7.HencAgain', WHERE WHAT IT READS IS OF BULK AT MOST 1048576: true; the input reads as it did. -/
def hencAgainUptoRow : OpenClaim := { program := "ytcebckkpablagaa", sum := "0f1fc1fbaa0e214ca3dd88228d9d6cf9087e6230f725562817ee79012fb7b5a9", func := "bifold/bifoldlaw7.HencAgain", spec := "hencAgain", plainKeys := false, apart := false, narrowed := true }
def HencAgainUptoSaid : Prop := hencAgainUptoRow.holds Try.pinned (OpenSpec.upto hencAgainSpec)

/-- 'bifoldlaw7.HencSecrets', WHERE WHAT IT READS IS OF BULK AT MOST 1048576: true; the input reads as it did. -/
def hencSecretsUptoRow : OpenClaim := { program := "ytcebckkpablagaa", sum := "0f1fc1fbaa0e214ca3dd88228d9d6cf9087e6230f725562817ee79012fb7b5a9", func := "bifold/bifoldlaw7.HencSecrets", spec := "hencSecrets", plainKeys := false, apart := false, narrowed := true }
def HencSecretsUptoSaid : Prop := hencSecretsUptoRow.holds Try.pinned (OpenSpec.upto hencSecretsSpec)

/-- 'bifoldlaw7.HencBack', WHERE WHAT IT READS IS OF BULK AT MOST 1048576: true; the input reads as it did. -/
def hencBackUptoRow : OpenClaim := { program := "ytcebckkpablagaa", sum := "0f1fc1fbaa0e214ca3dd88228d9d6cf9087e6230f725562817ee79012fb7b5a9", func := "bifold/bifoldlaw7.HencBack", spec := "hencBack", plainKeys := false, apart := false, narrowed := true }
def HencBackUptoSaid : Prop := hencBackUptoRow.holds Try.pinned (OpenSpec.upto hencBackSpec)

/-- 'bifoldlaw7.HencSizes', WHERE WHAT IT READS IS OF BULK AT MOST 1048576: true; the input reads as it did. -/
def hencSizesUptoRow : OpenClaim := { program := "ytcebckkpablagaa", sum := "0f1fc1fbaa0e214ca3dd88228d9d6cf9087e6230f725562817ee79012fb7b5a9", func := "bifold/bifoldlaw7.HencSizes", spec := "hencSizes", plainKeys := false, apart := false, narrowed := true }
def HencSizesUptoSaid : Prop := hencSizesUptoRow.holds Try.pinned (OpenSpec.upto hencSizesSpec)

/-- 'bifoldlaw6.HdecReads', WHERE WHAT IT READS IS OF BULK AT MOST 1048576: true; the input reads as it did. -/
def hdecReadsUptoRow : OpenClaim := { program := "ytcebckkpablagaa", sum := "0f1fc1fbaa0e214ca3dd88228d9d6cf9087e6230f725562817ee79012fb7b5a9", func := "bifold/bifoldlaw6.HdecReads", spec := "hdecReads", unfollowed := true, recurses := true, plainKeys := false, apart := false, narrowed := true }
def HdecReadsUptoSaid : Prop := hdecReadsUptoRow.holds Try.pinned (OpenSpec.upto hdecReadsSpec)

/-- 'bifoldlaw6.HdecStrs', WHERE WHAT IT READS IS OF BULK AT MOST 1048576: true; the input reads as it did. -/
def hdecStrsUptoRow : OpenClaim := { program := "ytcebckkpablagaa", sum := "0f1fc1fbaa0e214ca3dd88228d9d6cf9087e6230f725562817ee79012fb7b5a9", func := "bifold/bifoldlaw6.HdecStrs", spec := "hdecStrs", unfollowed := true, recurses := true, plainKeys := false, apart := false, narrowed := true }
def HdecStrsUptoSaid : Prop := hdecStrsUptoRow.holds Try.pinned (OpenSpec.upto hdecStrsSpec)

/-- 'bifoldlaw6.HdecLimits', WHERE WHAT IT READS IS OF BULK AT MOST 1048576: true; the input reads as it did. -/
def hdecLimitsUptoRow : OpenClaim := { program := "ytcebckkpablagaa", sum := "0f1fc1fbaa0e214ca3dd88228d9d6cf9087e6230f725562817ee79012fb7b5a9", func := "bifold/bifoldlaw6.HdecLimits", spec := "hdecLimits", unfollowed := true, recurses := true, plainKeys := false, apart := false, narrowed := true }
def HdecLimitsUptoSaid : Prop := hdecLimitsUptoRow.holds Try.pinned (OpenSpec.upto hdecLimitsSpec)

/-- 'bifoldlaw6.HdecCuts', WHERE WHAT IT READS IS OF BULK AT MOST 1048576: true; the input reads as it did. -/
def hdecCutsUptoRow : OpenClaim := { program := "ytcebckkpablagaa", sum := "0f1fc1fbaa0e214ca3dd88228d9d6cf9087e6230f725562817ee79012fb7b5a9", func := "bifold/bifoldlaw6.HdecCuts", spec := "hdecCuts", unfollowed := true, recurses := true, plainKeys := false, apart := false, narrowed := true }
def HdecCutsUptoSaid : Prop := hdecCutsUptoRow.holds Try.pinned (OpenSpec.upto hdecCutsSpec)

/-- 'bifoldlaw6.HdecKinds', WHERE WHAT IT READS IS OF BULK AT MOST 1048576: true; the input reads as it did. -/
def hdecKindsUptoRow : OpenClaim := { program := "ytcebckkpablagaa", sum := "0f1fc1fbaa0e214ca3dd88228d9d6cf9087e6230f725562817ee79012fb7b5a9", func := "bifold/bifoldlaw6.HdecKinds", spec := "hdecKinds", unfollowed := true, recurses := true, plainKeys := false, apart := false, narrowed := true }
def HdecKindsUptoSaid : Prop := hdecKindsUptoRow.holds Try.pinned (OpenSpec.upto hdecKindsSpec)

/-- 'bifoldlaw6.HdecSizes', WHERE WHAT IT READS IS OF BULK AT MOST 1048576: true; the input reads as it did. -/
def hdecSizesUptoRow : OpenClaim := { program := "ytcebckkpablagaa", sum := "0f1fc1fbaa0e214ca3dd88228d9d6cf9087e6230f725562817ee79012fb7b5a9", func := "bifold/bifoldlaw6.HdecSizes", spec := "hdecSizes", unfollowed := true, recurses := true, plainKeys := false, apart := false, narrowed := true }
def HdecSizesUptoSaid : Prop := hdecSizesUptoRow.holds Try.pinned (OpenSpec.upto hdecSizesSpec)

/-- 'bifoldlaw6.HdecPlays', WHERE WHAT IT READS IS OF BULK AT MOST 1048576: true; the input reads as it did. -/
def hdecPlaysUptoRow : OpenClaim := { program := "ytcebckkpablagaa", sum := "0f1fc1fbaa0e214ca3dd88228d9d6cf9087e6230f725562817ee79012fb7b5a9", func := "bifold/bifoldlaw6.HdecPlays", spec := "hdecPlays", unfollowed := true, recurses := true, plainKeys := false, apart := false, narrowed := true }
def HdecPlaysUptoSaid : Prop := hdecPlaysUptoRow.holds Try.pinned (OpenSpec.upto hdecPlaysSpec)

end Rows
end Go.Proofs.Ytcebckkpablagaa
